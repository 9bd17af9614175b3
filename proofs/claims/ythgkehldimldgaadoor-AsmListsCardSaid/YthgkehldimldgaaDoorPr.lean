/- Pr: structs in memory, all at once; a roomy copy of a program; a copy that is intact. -/
import Derived.Test.YthgkehldimldgaaDoorInsB
import Derived.Test.YthgkehldimldgaaDoorFr
set_option linter.unusedVariables false
set_option linter.unusedSimpArgs false
namespace Go.Lang
/-- A program: its numbers, its code. -/
structure Pg where
  a : Int
  b : Int
  c : Int
  d : Int
  l : List (Int × Int)
end Go.Lang
namespace Go.Pl
open Go Go.Sh Go.RowKit
attribute [grind =] Slc.mk.injEq
/-- A block of five cells is read. -/
theorem ldPr {w : World} {k : Nat} {t : TypeId} {a b c d : Int} {s : Slc} {K : Int → Int → Int → Int → Slc → Prop} (h : Blk w k #[.int .i64 a, .int .i64 b, .int .i64 c, .int .i64 d, .slice s.a s.l s.c] t) (hK : K a b c d s) :
    ldI .i64 ⟨k, 0, none⟩ w fun n1 => ldI .i64 ((⟨k, 0, none⟩ : Addr).add 1) w fun n2 => ldI .i64 ((⟨k, 0, none⟩ : Addr).add 2) w fun n3 => ldI .i64 ((⟨k, 0, none⟩ : Addr).add 3) w fun n4 => ldS ((⟨k, 0, none⟩ : Addr).add 4) w fun s5 => K n1 n2 n3 n4 s5 :=
  ldI_b (o := 0) h rfl (ldI_b h rfl (ldI_b h rfl (ldI_b h rfl (ldS_b h rfl hK))))
/-- .. is written. -/
theorem newPr {w : World} {t : TypeId} {x0 x1 x2 x3 x4 a b c d e : Value} {K : Addr → World → Prop}
    (h : ∀ k w', Ch [] w w' → Blk w' k #[a, b, c, d, e] t → w.heap.size ≤ k → w'.heap.size = w.heap.size + 1 → K ⟨k, 0, none⟩ w') :
    newP #[x0, x1, x2, x3, x4] t w fun ad w1 => stP ad a w1 fun w2 => stP (ad.add 1) b w2 fun w3 => stP (ad.add 2) c w3 fun w4 => stP (ad.add 3) d w4 fun w5 => stP (ad.add 4) e w5 fun w6 => K ad w6 := by
  refine newB fun k w1 hc1 hb1 hk hs1 => ?_
  refine stB (o := 0) hb1 (by simp) fun w2 hc2 hb2 hs2 => ?_
  refine stB hb2 (by simp) fun w3 hc3 hb3 hs3 => ?_
  refine stB hb3 (by simp) fun w4 hc4 hb4 hs4 => ?_
  refine stB hb4 (by simp) fun w5 hc5 hb5 hs5 => ?_
  refine stB hb5 (by simp) fun w6 hc6 hb6 hs6 => ?_
  refine h k w6 (by grind) ?_ (by omega) (by omega)
  exact hb6
theorem newIn {w : World} {t : TypeId} {x0 x1 a b : Value} {K : Addr → World → Prop}
    (h : ∀ k w', Ch [] w w' → Blk w' k #[a, b] t → w.heap.size ≤ k → w'.heap.size = w.heap.size + 1 → K ⟨k, 0, none⟩ w') :
    newP #[x0, x1] t w fun ad w1 => stP ad a w1 fun w2 => stP (ad.add 1) b w2 fun w3 => K ad w3 := by
  refine newB fun k w1 hc1 hb1 hk hs1 => ?_
  refine stB (o := 0) hb1 (by simp) fun w2 hc2 hb2 hs2 => ?_
  refine stB hb2 (by simp) fun w3 hc3 hb3 hs3 => ?_
  refine h k w3 (by grind) ?_ (by omega) (by omega)
  exact hb3
/-- .. written over. -/
theorem stPr {w : World} {t : TypeId} {k : Nat} {x0 x1 x2 x3 x4 a b c d e : Value} {K : World → Prop} (hb : Blk w k #[x0, x1, x2, x3, x4] t)
    (h : ∀ w', Ch [some k] w w' → Blk w' k #[a, b, c, d, e] t → w'.heap.size = w.heap.size → K w') :
    stP ⟨k, 0, none⟩ a w fun w2 => stP ((⟨k, 0, none⟩ : Addr).add 1) b w2 fun w3 => stP ((⟨k, 0, none⟩ : Addr).add 2) c w3 fun w4 => stP ((⟨k, 0, none⟩ : Addr).add 3) d w4 fun w5 => stP ((⟨k, 0, none⟩ : Addr).add 4) e w5 fun w6 => K w6 := by
  refine stB (o := 0) hb (by simp) fun w2 hc2 hb2 hs2 => ?_
  refine stB hb2 (by simp) fun w3 hc3 hb3 hs3 => ?_
  refine stB hb3 (by simp) fun w4 hc4 hb4 hs4 => ?_
  refine stB hb4 (by simp) fun w5 hc5 hb5 hs5 => ?_
  refine stB hb5 (by simp) fun w6 hc6 hb6 hs6 => ?_
  refine h w6 (by grind) ?_ (by omega)
  exact hb6
@[grind →] theorem RdC.ch {L : List (Option Nat)} {w w' : World} {s : Slc} {cs : List (Int × Int)} (h : RdC w s cs) (hc : Ch L w w') (hn : ∀ b, blkOf s = some b → ¬ inL L b) : RdC w' s cs := h.chg hc hn
@[grind →] theorem RdC.ch0 {w w' : World} {s : Slc} {cs : List (Int × Int)} (h : RdC w s cs) (hc : Ch [] w w') : RdC w' s cs := h.chg hc fun _ _ h => h
theorem RdC.old {w : World} {s : Slc} {cs : List (Int × Int)} (h : RdC w s cs) (hne : cs ≠ []) : Lt w.heap.size (blkOf s) := fun k hk => by
  obtain ⟨x, r, rfl⟩ := List.exists_cons_of_ne_nil hne
  obtain ⟨ad, ha, h1, _⟩ := h.at_ 0 x rfl
  have := World.block_lt_of_cell? w _ h1
  rw [add_block] at this
  simp [blkOf, ha] at hk
  omega
theorem RdC.to {w w' : World} {s : Slc} {cs : List (Int × Int)} (h : RdC w s cs) (k : RdC w' s cs) : RdC w' s cs := k
theorem RdC.nil {w : World} {s : Slc} (h0 : s.l = 0) : RdC w s [] := ⟨by simp [h0], by omega, fun i x hx => by simp at hx⟩
theorem RdC.part {w : World} {s : Slc} {cs : List (Int × Int)} (h : RdC w s cs) (hn : s.a = none → s.l = 0 ∧ s.c = 0) {hi : Int} {K : Option Addr → Nat → Nat → Prop} (hh : hi = (cs.length : Int)) (hK : RdC w ⟨s.a, cs.length, s.c⟩ cs → K s.a cs.length s.c) : slP s.a s.l s.c none (some hi) 2 K := by
  subst hh
  have hc := h.cap
  have hl := h.len
  unfold slP
  simp only [Option.getD_none, Option.getD_some, Int.toNat_zero, Nat.zero_mul, Nat.sub_zero]
  refine ⟨by omega, by omega, by omega, ?_⟩
  have e : (if s.c = 0 then s.a else s.a.map (·.add 0)) = s.a := by
    split
    · rfl
    · cases s.a <;> rfl
  rw [e, Int.toNat_natCast]
  exact hK ⟨rfl, by simp only []; omega, h.at_⟩
end Go.Pl
namespace Go.Proofs.YthgkehldimldgaaDoor
open Go Go.Sh Go.Pl Go.RowKit Go.Lang
/-- A roomy copy of some code. -/
structure Room (w : World) (cb : Nat) (cur : Array Value) (is : List (Int × Int)) : Prop where
  blk : Blk w cb cur 39
  pre : ∀ (j : Nat) (v : Value), (flat is)[j]? = some v → cur[j]? = some v
  m1 : cur[is.length * 2]? = some (.int .i64 (-31))
  m2 : cur[(is.length + 1) * 2]? = some (.int .i64 (-32))
@[grind →] theorem Room.ch {L : List (Option Nat)} {w w' : World} {cb : Nat} {cur : Array Value} {is : List (Int × Int)} (h : Room w cb cur is) (hc : Ch L w w') (hn : ¬ inL L cb) : Room w' cb cur is := ⟨h.blk.ch hc hn, h.pre, h.m1, h.m2⟩
@[grind →] theorem Room.ltb {w : World} {cb : Nat} {cur : Array Value} {is : List (Int × Int)} (h : Room w cb cur is) : cb < w.heap.size := h.blk.lt
@[grind →] theorem Room.ch0 {w w' : World} {cb : Nat} {cur : Array Value} {is : List (Int × Int)} (h : Room w cb cur is) (hc : Ch [] w w') : Room w' cb cur is := h.ch hc (fun h => h)
theorem Room.rd {w : World} {cb : Nat} {cur : Array Value} {is : List (Int × Int)} (h : Room w cb cur is) : RdC w ⟨some ⟨cb, 0, none⟩, is.length, is.length + 2⟩ is := h.blk.rdC h.pre (by omega)
theorem Room.to {w w' : World} {cb : Nat} {cur : Array Value} {is : List (Int × Int)} (h : Room w cb cur is) (k : Room w' cb cur is) : Room w' cb cur is := k
end Go.Proofs.YthgkehldimldgaaDoor
