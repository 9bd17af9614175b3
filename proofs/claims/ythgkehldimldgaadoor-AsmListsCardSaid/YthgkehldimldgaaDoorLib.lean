/- Lib: libraries in memory; names; lang.Check, the document's Check. -/
import Derived.Test.YthgkehldimldgaaDoorFr2
import Derived.Test.YthgkehldimldgaaDoorMapS
import Derived.Test.YthgkehldimldgaaDoorLong
set_option linter.unusedVariables false
set_option linter.unusedSimpArgs false
namespace Go.Lang
open Go.Names
structure Pc where
  name : ByteArray
  p : Pg
def nmP (b i : Nat) : Prop := (97 ≤ b ∧ b ≤ 122) ∨ (65 ≤ b ∧ b ≤ 90) ∨ (i ≠ 0 ∧ (b = 95 ∨ (48 ≤ b ∧ b ≤ 57)))
instance (b i : Nat) : Decidable (nmP b i) := by unfold nmP; infer_instance
def nameOk (s : ByteArray) : Bool := decide (1 ≤ s.size ∧ s.size ≤ 31) && decide (∀ j, (h : j < s.size) → nmP (s[j]'h).toNat j)
def memB (s : ByteArray) (l : List ByteArray) : Bool := l.any fun k => seq k s
theorem seq_iff (a b : ByteArray) : seq a b = true ↔ a = b := by
  unfold seq
  rw [decide_eq_true_eq]
  constructor
  · intro h
    cases a; cases b
    simp only [ByteArray.mk.injEq]
    rw [← Array.toList_inj]; exact h
  · rintro rfl; rfl
theorem memB_iff (s : ByteArray) (l : List ByteArray) : memB s l = true ↔ s ∈ l := by
  unfold memB
  rw [List.any_eq_true]
  constructor
  · rintro ⟨k, hk, h⟩
    rw [← (seq_iff k s).1 h]; exact hk
  · intro h
    exact ⟨s, h, (seq_iff s s).2 rfl⟩
def pgD (x : Pg) : List Int × Int := depths x.a x.b x.c x.d x.l
def ckL : List ByteArray → Nat → List Pc → Int × Int
  | _, _, [] => (0, 0)
  | pre, i, x :: r => if (memB x.name pre || !nameOk x.name) = true then ((i : Int), 35) else if (pgD x.p).2 ≠ 0 then ((i : Int), (pgD x.p).2) else ckL (pre ++ [x.name]) (i + 1) r
def checkT (ps : List Pc) : Int × Int := if ps.length > 64 then (0, 36) else ckL [] 0 ps
end Go.Lang
namespace Go.Pl
open Go Go.Sh Go.RowKit Go.Lang
/-- A procedure at an address. -/
structure PcAt (w : World) (ad : Addr) (x : Pc) (cs : Slc) : Prop where
  c0 : w.cell? ad = some (.string x.name)
  c1 : w.cell? (ad.add 1) = some (.int .i64 x.p.a)
  c2 : w.cell? (ad.add 2) = some (.int .i64 x.p.b)
  c3 : w.cell? (ad.add 3) = some (.int .i64 x.p.c)
  c4 : w.cell? (ad.add 4) = some (.int .i64 x.p.d)
  c5 : w.cell? (ad.add 5) = some (.slice cs.a cs.l cs.c)
  rd : RdC w cs x.p.l
  few : x.p.l.length ≤ 8800000000000
  nl : cs.a = none → cs.l = 0
theorem PcAt.ch0 {w w' : World} {ad : Addr} {x : Pc} {cs : Slc} (h : PcAt w ad x cs) (hc : Ch [] w w') : PcAt w' ad x cs := by
  have k : ∀ {a : Addr} {v : Value}, w.cell? a = some v → w'.cell? a = some v := fun hv => cell_chg (show Chg Nil w w' from hc) hv fun h => h
  exact ⟨k h.c0, k h.c1, k h.c2, k h.c3, k h.c4, k h.c5, h.rd.ch0 hc, h.few, h.nl⟩
/-- A library. -/
structure RdL (w : World) (s : Slc) (ps : List Pc) : Prop where
  len : s.l = ps.length
  cap : s.l ≤ s.c
  at_ : ∀ i x, ps[i]? = some x → ∃ ad cs, s.a = some ad ∧ PcAt w (ad.add (i * 6)) x cs
theorem RdL.ch0 {w w' : World} {s : Slc} {ps : List Pc} (h : RdL w s ps) (hc : Ch [] w w') : RdL w' s ps := ⟨h.len, h.cap, fun i x hx => by
  obtain ⟨ad, cs, h1, h2⟩ := h.at_ i x hx
  exact ⟨ad, cs, h1, h2.ch0 hc⟩⟩
theorem RdL.idx {w : World} {s : Slc} {ps : List Pc} (h : RdL w s ps) {i : Nat} {i' : Int} {K : Addr → Prop} (hi' : i' = (i : Int)) (hi : i < ps.length) (hK : ∀ ad cs, PcAt w ad ps[i] cs → K ad) : idxP s.a s.l i' 6 K := by
  subst hi'
  obtain ⟨ad, cs, h1, h2⟩ := h.at_ i ps[i] (by simp)
  exact ⟨by omega, by rw [h.len]; omega, ad, h1, by rw [Int.toNat_natCast]; exact hK _ cs h2⟩
theorem RdL.at' {w : World} {s : Slc} {ps : List Pc} (h : RdL w s ps) {i : Nat} (hi : i < ps.length) : ∃ ad cs, PcAt w ad ps[i] cs ∧ ∀ (i' : Int) (K : Addr → Prop), i' = (i : Int) → K ad → idxP s.a s.l i' 6 K := by
  obtain ⟨ad, cs, h1, h2⟩ := h.at_ i ps[i] (by simp)
  refine ⟨_, cs, h2, fun i' K hi' hK => ?_⟩
  subst hi'
  exact ⟨by omega, by rw [h.len]; omega, ad, h1, by rw [Int.toNat_natCast]; exact hK⟩
/-- Its program is read. -/
theorem ldPc {w : World} {ad : Addr} {x : Pc} {cs : Slc} {K : Int → Int → Int → Int → Slc → Prop} (h : PcAt w ad x cs) (hK : K x.p.a x.p.b x.p.c x.p.d cs) :
    ldI .i64 (ad.add 1) w fun n1 => ldI .i64 ((ad.add 1).add 1) w fun n2 => ldI .i64 ((ad.add 1).add 2) w fun n3 => ldI .i64 ((ad.add 1).add 3) w fun n4 => ldS ((ad.add 1).add 4) w fun s5 => K n1 n2 n3 n4 s5 := by
  rw [Deep.add_add, Deep.add_add, Deep.add_add, Deep.add_add]
  exact ldI_of h.c1 (ldI_of h.c2 (ldI_of h.c3 (ldI_of h.c4 (ldS_of h.c5 hK))))
/-- A block of six cells is written. -/
theorem newPc {w : World} {t : TypeId} {x0 x1 x2 x3 x4 x5 v0 v1 v2 v3 v4 v5 : Value} {K : Addr → World → Prop}
    (h : ∀ k w', Ch [] w w' → Blk w' k #[v0, v1, v2, v3, v4, v5] t → w.heap.size ≤ k → K ⟨k, 0, none⟩ w') :
    newP #[x0, x1, x2, x3, x4, x5] t w fun ad w1 => stP ad v0 w1 fun w2 => stP (ad.add 1) v1 w2 fun w3 => stP (ad.add 2) v2 w3 fun w4 => stP (ad.add 3) v3 w4 fun w5 => stP (ad.add 4) v4 w5 fun w6 => stP (ad.add 5) v5 w6 fun w7 => K ad w7 := by
  refine newB fun k w1 hc1 hb1 hk hs1 => ?_
  refine st6 hb1 (by simp) fun w2 cur hc2 hb2 hs2 _ e0 e1 e2 e3 e4 e5 hz => h k w2 (hc1.trN hc2 (by omega)) ?_ (by omega)
  have e : cur = #[v0, v1, v2, v3, v4, v5] := by
    obtain ⟨l⟩ := cur
    have hl : l.length = 6 := hs2
    match l, hl with
    | [y0, y1, y2, y3, y4, y5], _ =>
      simp at e0 e1 e2 e3 e4 e5
      subst e0 e1 e2 e3 e4 e5
      rfl
  rw [← e]; exact hb2
theorem nameF {s : ByteArray} {w : World} {K : Bool → World → Prop} (hK : K (decide (∀ j, (h : j < s.size) → nmP (s[j]'h).toNat j)) w) (h31 : s.size ≤ 31) :
    loopP (σ := Int × Unit) (fun st2 next1 w3 => (fun (i_4 : Int) => iteB (decide ((i_4 : Int) < (s.size : Int)))
  (chP s i_4 fun b5 => iteB (decide ((b5 : Int) ≥ 97))
  (iteB (decide ((b5 : Int) ≤ 122))
  (next1 ((IntKind.i64.wrap (i_4 + 1)), ()) w3)
  (iteB (decide ((b5 : Int) ≥ 65))
  (iteB (!(decide ((b5 : Int) ≤ 90)))
  (iteB ((i_4 : Int) == 0)
  (K false w3)
  (iteB ((b5 : Int) != 95)
  (iteB (decide ((b5 : Int) < 48))
  (K false w3)
  (iteB (decide ((b5 : Int) > 57))
  (K false w3)
  (next1 ((IntKind.i64.wrap (i_4 + 1)), ()) w3)))
  (next1 ((IntKind.i64.wrap (i_4 + 1)), ()) w3)))
  (next1 ((IntKind.i64.wrap (i_4 + 1)), ()) w3))
  (iteB ((i_4 : Int) == 0)
  (K false w3)
  (iteB ((b5 : Int) != 95)
  (iteB (decide ((b5 : Int) < 48))
  (K false w3)
  (iteB (decide ((b5 : Int) > 57))
  (K false w3)
  (next1 ((IntKind.i64.wrap (i_4 + 1)), ()) w3)))
  (next1 ((IntKind.i64.wrap (i_4 + 1)), ()) w3)))))
  (iteB (decide ((b5 : Int) ≥ 65))
  (iteB (!(decide ((b5 : Int) ≤ 90)))
  (iteB ((i_4 : Int) == 0)
  (K false w3)
  (iteB ((b5 : Int) != 95)
  (iteB (decide ((b5 : Int) < 48))
  (K false w3)
  (iteB (decide ((b5 : Int) > 57))
  (K false w3)
  (next1 ((IntKind.i64.wrap (i_4 + 1)), ()) w3)))
  (next1 ((IntKind.i64.wrap (i_4 + 1)), ()) w3)))
  (next1 ((IntKind.i64.wrap (i_4 + 1)), ()) w3))
  (iteB ((i_4 : Int) == 0)
  (K false w3)
  (iteB ((b5 : Int) != 95)
  (iteB (decide ((b5 : Int) < 48))
  (K false w3)
  (iteB (decide ((b5 : Int) > 57))
  (K false w3)
  (next1 ((IntKind.i64.wrap (i_4 + 1)), ()) w3)))
  (next1 ((IntKind.i64.wrap (i_4 + 1)), ()) w3)))))
  (K true w3)) st2.1) (0, ()) w := by
  refine loopP_inv (fun st w1 => w1 = w ∧ ∃ i : Nat, st.1 = (i : Int) ∧ i ≤ s.size ∧ ∀ j, (h : j < s.size) → j < i → nmP (s[j]'h).toNat j) (fun st _ => s.size - st.1.toNat) ⟨rfl, 0, rfl, Nat.zero_le _, fun j h hj => by omega⟩ ?_
  rintro ⟨i0, u⟩ w1 next ⟨rfl, i, rfl, hi, hall⟩ hnext
  dsimp only
  refine iteB_dec (fun h => ?_) (fun h => ?_)
  · have hlt : i < s.size := by omega
    refine ⟨by omega, s[i], by rw [Int.toNat_natCast]; exact getElem?_pos s i hlt, ?_⟩
    have good : nmP s[i].toNat i → next ((IntKind.i64.wrap ((i : Int) + 1)), ()) w1 := fun hg => by
      rw [wrap_i64 (by omega)]
      refine hnext _ _ ⟨rfl, i + 1, by simp, hlt, fun j hj hji => ?_⟩ (by simp; omega)
      rcases Nat.lt_or_ge j i with h1 | h1
      · exact hall j hj h1
      · have : j = i := by omega
        subst this; exact hg
    have bad : ¬ nmP s[i].toNat i → K false w1 := fun hb => by
      rwa [decide_eq_false (fun hh => hb (hh i hlt))] at hK
    generalize s[i].toNat = b at *
    unfold nmP at good bad
    clear hnext hall hK
    repeat' first | refine iteB_dec (fun _ => ?_) (fun _ => ?_) | refine iteB_ndec (fun _ => ?_) (fun _ => ?_) | refine iteB_eq (fun _ => ?_) (fun _ => ?_) | refine iteB_ne (fun _ => ?_) (fun _ => ?_)
    all_goals first | exact good (by omega) | exact bad (by omega)
  · have hie : i = s.size := by omega
    subst hie
    rwa [decide_eq_true (fun j hj => hall j hj hj)] at hK
end Go.Pl
