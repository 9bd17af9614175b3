/- Book: the lists that a law keeps: put, whole, ends. -/
import Derived.Test.YtmadhcoeiclalaaBy
set_option linter.unusedVariables false
set_option linter.unusedSimpArgs false
namespace Go.Pl
open Go Go.Sh Go.RowKit
theorem chgNN' {w w1 w2 : World} (h : Chg Nil w w1) (k : Chg Nil w1 w2) : Chg Nil w w2 := h.step k fun _ _ h => h
/-- Append of one cell: of the old row's first cells none turns. -/
theorem apP_keep {P : Program} {t e : TypeId} {z : Value} {bytes : Nat} (T : ElT P t e z 1 bytes) {ty : TypeId} {w : World} {s : Slc} {b : Nat} {v : Value} {vs : List Value} {K : Slc → World → Prop}
    (hs : Own w e 1 s vs) (hb : Blk w b #[v] e) (hsb : blkOf s ≠ some b) (h1 : v.oneCell' = true) (hbd : (s.l + 1) * bytes ≤ 140737488355328) (hm : s.l + 1 ≤ 140737488355328)
    (h : ∀ s' w', Own w' e 1 s' (vs ++ [v]) → Gr s w s' w' → (∀ (q : Slc) us, Rd w q us → q.a = s.a → us.length ≤ vs.length → Rd w' q us) → (s'.a = s.a ∨ ∀ k, blkOf s' = some k → w.heap.size ≤ k) → K s' w') :
    apP P #[t, t] ty [.slice s.a s.l s.c, .slice (some ⟨b, 0, none⟩) 1 1] w K := by
  obtain ⟨i, hi, hz, hsz, hby⟩ := info_parts T.info
  have hnews : ∀ j u, [v][j]? = some u → w.cell? ((⟨b, 0, none⟩ : Addr).add j) = some u := fun j u hu => by
    rw [add_mk, Nat.zero_add, hb.cell]
    cases j with
    | zero => simpa using hu
    | succ j => simp at hu
  obtain ⟨v', w', hrun, hown, hgr, hnil, hat⟩ := run_append_own_at (P := P) w 0 t ty e i z 1 bytes T.und hi hz hsz hby T.zs T.pos _ s.l vs hs ⟨b, 0, none⟩ 1 1 [v] rfl hnews (by simpa using h1) (by unfold maxLen; omega) hbd (Nat.zero_le _)
  obtain ⟨s', rfl, hl⟩ := own_slice hown
  have hown' : Own w' e 1 s' (vs ++ [v]) := by rw [← hl] at hown; exact hown
  have hlen : vs.length = s.l := by rw [hs.len, Nat.mul_one]
  rw [blkOf_own, blkOf_own] at hat
  refine ⟨s', w', by simpa using hrun, h s' w' hown' ⟨(Chg.grown hgr).mono fun k _ hk => by rw [blkOf_own] at hk; exact hk, fun k hk => ?_⟩ (fun q us hq hqa hle => ?_) ?_⟩
  · rcases hat with h2 | h2
    · exact .inl (h2 ▸ hk)
    · rw [h2] at hk; simp at hk; exact .inr (by omega)
  · rcases hs.2 with ⟨he, h0⟩ | ⟨g, cap, cur, he, _, hg, hnc, hcm, hcs, htake⟩
    · have : us = [] := List.eq_nil_of_length_eq_zero (by omega)
      subst this
      exact ⟨hq.len, hq.cap, fun j hj => by simp at hj⟩
    · injection he with e1 e2 e3
      by_cases hroom : s.l + 1 ≤ s.c
      · have hr := run_append_room (P := P) w t ty e i T.und hi g s.l s.c cur hg ⟨b, 0, none⟩ 1 1 [v] (by rw [hsz]; rfl) hnews (by simpa using h1) hroom (by rw [hsz, hcs, e3.symm]; simp; omega)
        rw [e1] at hrun
        have hww := hrun.symm.trans hr
        injection hww with _ hw
        subst hw
        refine ⟨hq.len, hq.cap, fun j hj => ?_⟩
        obtain ⟨ad, ha, hx⟩ := hq.at_ j hj
        refine ⟨ad, ha, ?_⟩
        rw [hqa, e1] at ha
        cases ha
        rw [← hx, add_mk, Nat.zero_add]
        have hb2 : Blk (w.setRow g (cur.toList.take (s.l * i.size) ++ [v] ++ cur.toList.drop (s.l * i.size + [v].length)).toArray) g _ e := setRow_heap w g cur _ e _ hg
        rw [hb2.cell, (show Blk w g cur e from hg).cell]
        have hjl : j < s.l := by omega
        have hcl : s.l ≤ cur.size := by rw [hcs, ← e3]; omega
        rw [hsz, Nat.mul_one]
        simp only [List.append_assoc, List.getElem?_toArray]
        rw [List.getElem?_append_left (by simp; omega), List.getElem?_take, if_pos hjl]
        simp
      · have hr := run_append_grow (P := P) w t ty e i z T.und hi hz ⟨g, 0, none⟩ s.l s.c vs (by rw [hsz]; omega) (World.ownsRow.cells hs (g := g) (by rw [e1, e2, e3]; rw [← e2, ← e3]; rfl)) ⟨b, 0, none⟩ 1 1 [v] (by rw [hsz]; rfl) hnews (by omega) (by omega) (growslice_fits (by omega) (by rw [hby]; exact hbd))
        rw [e1] at hrun
        have hww := hrun.symm.trans hr
        injection hww with _ hw
        subst hw
        exact hq.chg (S := Nil) (((Drw.refl w).drew.chg Nil).step (Chg.alloc _ _ _) fun _ _ h => h) fun _ _ h => h
  · rcases hat with h2 | h2
    · left
      rcases hown'.2 with ⟨he, h0⟩ | ⟨g, cap, cur, he, _⟩
      · omega
      · injection he with e1 _ _
        rcases hs.2 with ⟨he', h0'⟩ | ⟨g', cap', cur', he', _⟩
        · injection he' with e1' _ _
          rw [blkOf, blkOf, e1, e1'] at h2
          cases h2
        · injection he' with e1' _ _
          rw [blkOf, blkOf, e1, e1'] at h2
          simp at h2
          rw [e1, e1', h2]
    · exact .inr fun k hk => by rw [h2] at hk; simp at hk; omega
end Go.Pl
namespace Go.Pl
open Go Go.Sh Go.RowKit
/-! ### Objects that share no block -/
def Sep (m : Nat) (ob : Nat → Slc) : Prop := ∃ f : Nat → Nat, ∀ p, p < m → ∀ k, blkOf (ob p) = some k → f k = p
theorem Sep.dis {m : Nat} {ob : Nat → Slc} (h : Sep m ob) {p q : Nat} (hp : p < m) (hq : q < m) (hne : p ≠ q) {k : Nat} (h1 : blkOf (ob p) = some k) : blkOf (ob q) ≠ some k := fun h2 => by
  obtain ⟨f, hf⟩ := h
  exact hne ((hf p hp k h1).symm.trans (hf q hq k h2))
theorem Sep.upd {m : Nat} {ob ob' : Nat → Slc} (h : Sep m ob) {p H : Nat} (hp : p < m) (hlt : ∀ q, q < m → ∀ k, blkOf (ob q) = some k → k < H) (heq : ∀ q, q < m → q ≠ p → ob' q = ob q)
    (hb : ∀ k, blkOf (ob' p) = some k → blkOf (ob p) = some k ∨ H ≤ k) : Sep m ob' := by
  obtain ⟨f, hf⟩ := h
  classical
  refine ⟨fun k => if blkOf (ob' p) = some k then p else f k, fun q hq k hk => ?_⟩
  by_cases hqp : q = p
  · subst hqp; simp [hk]
  · rw [heq q hq hqp] at hk
    have hfk := hf q hq k hk
    simp only
    split
    · rename_i hpk
      rcases hb k hpk with h1 | h1
      · have := hf p hp k h1; omega
      · have := hlt q hq k hk; omega
    · exact hfk
theorem Sep.add {m : Nat} {ob ob' : Nat → Slc} (h : Sep m ob) (heq : ∀ q, q < m → ob' q = ob q) (hb : ∀ k, blkOf (ob' m) = some k → ∀ q, q < m → blkOf (ob q) ≠ some k) : Sep (m + 1) ob' := by
  obtain ⟨f, hf⟩ := h
  classical
  refine ⟨fun k => if blkOf (ob' m) = some k then m else f k, fun q hq k hk => ?_⟩
  by_cases hqp : q = m
  · subst hqp; simp [hk]
  · rw [heq q (by omega)] at hk
    simp only
    split
    · rename_i hpk
      exact absurd hk (hb k hpk q (by omega))
    · exact hf q (by omega) k hk
def ext {α : Type} (f : Nat → α) (n : Nat) (x : α) : Nat → α := fun i => if i < n then f i else x
theorem ext_lt {α : Type} {f : Nat → α} {n : Nat} {x : α} {i : Nat} (h : i < n) : ext f n x i = f i := if_pos h
theorem ext_eq {α : Type} (f : Nat → α) (n : Nat) (x : α) : ext f n x n = x := if_neg (Nat.lt_irrefl n)
def sv (s : Slc) : Value := .slice s.a s.l s.c
def rowV (l : Nat → Slc) (n : Nat) : List Value := (List.range n).map fun i => sv (l i)
@[simp] theorem rowV_length (l : Nat → Slc) (n : Nat) : (rowV l n).length = n := by simp [rowV]
theorem rowV_at (l : Nat → Slc) {n i : Nat} (h : i < n) : (rowV l n)[i]? = some (sv (l i)) := by simp [rowV, h]
theorem rowV_ext (l : Nat → Slc) (n : Nat) (x : Slc) : rowV (ext l n x) (n + 1) = rowV l n ++ [sv x] := by
  unfold rowV
  rw [List.range_succ, List.map_append]
  congr 1
  · exact List.map_congr_left fun i hi => by rw [ext_lt (List.mem_range.1 hi)]
  · simp [ext_eq]
theorem rowV_congr {l l' : Nat → Slc} {n : Nat} (h : ∀ i, i < n → l i = l' i) : rowV l n = rowV l' n := List.map_congr_left fun i hi => by rw [h i (List.mem_range.1 hi)]
/-- A store into a row of one's own. -/
theorem Own.set {w : World} {e : TypeId} {s : Slc} {vs : List Value} {v : Value} {K : World → Prop} (h : Own w e 1 s vs) {i : Int} {j : Nat} (hi : i = (j : Int)) (hj : j < vs.length) (hv : v.oneCell' = true)
    (hK : ∀ w', Own w' e 1 s (vs.set j v) → Chg (fun k => some k = blkOf s) w w' → K w') : idxP s.a s.l i 1 fun a => stP a v w K := by
  subst hi
  have hl : vs.length = s.l := by rw [h.len, Nat.mul_one]
  rcases h.2 with ⟨he, h0⟩ | ⟨g, cap, cur, he, hb0, hg, hnc, hcm, hcs, htake⟩
  · omega
  · have he' := he
    injection he with e1 e2 e3
    refine idxP_intro (by omega) (by omega) e1 ?_
    rw [add_mk, Nat.zero_add, Nat.mul_one, Int.toNat_natCast]
    refine stP_intro (show Blk w g cur e from hg) (by omega) fun w' hc hb _ => hK w' ⟨by simpa using h.1, .inr ⟨g, cap, _, he', hb0, hb, hnc, hcm, by simpa using hcs, ?_⟩⟩ (hc.mono fun k _ hk => by rw [hk, blkOf, e1]; rfl)
    rw [Array.toList_setIfInBounds, List.take_set, htake]
end Go.Pl
namespace Go.Proofs.Ytmadhcoeiclalaa
open Go Go.Sh Go.Pl Go.RowKit
theorem TBE : ElT Try.prog 29 26 (.slice none 0 0) 1 24 := ⟨by kernel_rfl, by kernel_rfl, rfl, by decide⟩
def obj (b : Nat) (L W : Slc) (l c : Nat → Slc) : Nat → Slc := fun p => if p = 0 then ⟨some ⟨b, 0, none⟩, 0, 0⟩ else if p = 1 then L else if p = 2 then W else if p % 2 = 1 then l ((p - 3) / 2) else c ((p - 4) / 2)
theorem obj0 (b : Nat) (L W : Slc) (l c : Nat → Slc) : blkOf (obj b L W l c 0) = some b := rfl
theorem obj1 (b : Nat) (L W : Slc) (l c : Nat → Slc) : obj b L W l c 1 = L := rfl
theorem obj2 (b : Nat) (L W : Slc) (l c : Nat → Slc) : obj b L W l c 2 = W := rfl
theorem objl (b : Nat) (L W : Slc) (l c : Nat → Slc) (i : Nat) : obj b L W l c (2 * i + 3) = l i := by
  unfold obj
  rw [if_neg (by omega), if_neg (by omega), if_neg (by omega), if_pos (by omega)]
  congr 1; omega
theorem objc (b : Nat) (L W : Slc) (l c : Nat → Slc) (i : Nat) : obj b L W l c (2 * i + 4) = c i := by
  unfold obj
  rw [if_neg (by omega), if_neg (by omega), if_neg (by omega), if_neg (by omega)]
  congr 1; omega
theorem obj_cases {n p : Nat} (h : p < 2 * n + 3) : p = 0 ∨ p = 1 ∨ p = 2 ∨ (∃ i, i < n ∧ p = 2 * i + 3) ∨ (∃ i, i < n ∧ p = 2 * i + 4) := by
  by_cases h0 : p = 0
  · exact .inl h0
  by_cases h1 : p = 1
  · exact .inr (.inl h1)
  by_cases h2 : p = 2
  · exact .inr (.inr (.inl h2))
  by_cases h3 : p % 2 = 1
  · exact .inr (.inr (.inr (.inl ⟨(p - 3) / 2, by omega, by omega⟩)))
  · exact .inr (.inr (.inr (.inr ⟨(p - 4) / 2, by omega, by omega⟩)))
structure Bk (w : World) (b : Nat) (L W : Slc) (n : Nat) (l c : Nat → Slc) (bs : Nat → List UInt8) : Prop where
  blk : Blk w b #[sv L, sv W] 31
  oL : Own w 26 1 L (rowV l n)
  oW : Own w 26 1 W (rowV c n)
  ol : ∀ i, i < n → Own w 5 1 (l i) (U8 (bs i))
  oc : ∀ i, i < n → Own w 5 1 (c i) (U8 (bs i))
  sep : Sep (2 * n + 3) (obj b L W l c)
  few : ∀ i, i < n → (bs i).length ≤ 140737488351232
theorem Bk.lt {w : World} {b : Nat} {L W : Slc} {n : Nat} {l c : Nat → Slc} {bs : Nat → List UInt8} (h : Bk w b L W n l c bs) : ∀ p, p < 2 * n + 3 → ∀ k, blkOf (obj b L W l c p) = some k → k < w.heap.size := fun p hp k hk => by
  rcases obj_cases hp with rfl | rfl | rfl | ⟨i, hi, rfl⟩ | ⟨i, hi, rfl⟩
  · rw [obj0] at hk; cases hk; exact h.blk.lt
  · exact h.oL.lt k hk
  · exact h.oW.lt k hk
  · rw [objl] at hk; exact (h.ol i hi).lt k hk
  · rw [objc] at hk; exact (h.oc i hi).lt k hk
theorem Bk.chg {S : Nat → Prop} {w w' : World} {b : Nat} {L W : Slc} {n : Nat} {l c : Nat → Slc} {bs : Nat → List UInt8} (h : Bk w b L W n l c bs) (hc : Chg S w w') (hn : ∀ p, p < 2 * n + 3 → ∀ k, blkOf (obj b L W l c p) = some k → ¬ S k) : Bk w' b L W n l c bs :=
  ⟨h.blk.chg hc (hn 0 (by omega) b rfl), h.oL.chg hc fun k hk => hn 1 (by omega) k hk, h.oW.chg hc fun k hk => hn 2 (by omega) k hk,
   fun i hi => (h.ol i hi).chg hc fun k hk => hn (2 * i + 3) (by omega) k (by rw [objl]; exact hk), fun i hi => (h.oc i hi).chg hc fun k hk => hn (2 * i + 4) (by omega) k (by rw [objc]; exact hk), h.sep, h.few⟩
theorem Bk.nil {w w' : World} {b : Nat} {L W : Slc} {n : Nat} {l c : Nat → Slc} {bs : Nat → List UInt8} (h : Bk w b L W n l c bs) (hc : Chg Nil w w') : Bk w' b L W n l c bs := h.chg hc fun _ _ _ _ h => h
/-- Whose block it is. -/
def BkF (b : Nat) (L W : Slc) (n : Nat) (l c : Nat → Slc) (k : Nat) : Prop := ∃ p, p < 2 * n + 3 ∧ blkOf (obj b L W l c p) = some k
set_option maxRecDepth 20000 in
theorem put_ok {w : World} {b : Nat} {L W x : Slc} {n : Nat} {l c : Nat → Slc} {bs : Nat → List UInt8} {xs : List UInt8} {K : World → Prop} (h : Bk w b L W n l c bs) (hx : Own w 5 1 x (U8 xs)) (hl : xs.length ≤ 140737488351232)
    (hd : ∀ k, blkOf x = some k → ¬ BkF b L W n l c k) (hn : n ≤ 1000000000000)
    (hK : ∀ L' W' c' w', Bk w' b L' W' (n + 1) (ext l n x) (ext c n c') (ext bs n xs) → Chg (fun k => k = b ∨ some k = blkOf L ∨ some k = blkOf W) w w' →
      (∀ k, BkF b L' W' (n + 1) (ext l n x) (ext c n c') k → BkF b L W n l c k ∨ blkOf x = some k ∨ w.heap.size ≤ k) → K w') : c_preludelaw01_book_put (some ⟨b, 0, none⟩) x w K := by
  refine sim_preludelaw01_book_put ?_
  unfold sh_preludelaw01_book_put
  have hblt := h.blk.lt
  have hLlt := h.oL.lt
  have hWlt := h.oW.lt
  have hxlt := hx.lt
  have hLl : L.l = n := by have := h.oL.rd.len; simpa using this
  have hWl : W.l = n := by have := h.oW.rd.len; simpa using this
  have bL : blkOf L ≠ some b := fun he => h.sep.dis (p := 1) (q := 0) (by omega) (by omega) (by omega) he rfl
  have bW : blkOf W ≠ some b := fun he => h.sep.dis (p := 2) (q := 0) (by omega) (by omega) (by omega) he rfl
  have LW : ∀ k, blkOf L = some k → blkOf W ≠ some k := fun k hk => h.sep.dis (p := 1) (q := 2) (by omega) (by omega) (by omega) hk
  rw [nnP_some]
  refine ldS_of (s := L) (by rw [h.blk.cell]; rfl) ?_
  refine newP_intro fun w1 hc1 hb1 hs1 => ?_
  refine apP_one TBE (s := L) (v := sv x) (h.oL.chg hc1 fun _ _ h => h) hb1 rfl (by omega) (by omega) fun L' w2 hoL2 hl2 hc2 hblk2 hsz2 => ?_
  have hL'b : ∀ k, blkOf L' = some k → blkOf L = some k ∨ w.heap.size ≤ k := fun k hk => by
    rcases hblk2 with h2 | h2
    · exact .inl (h2 ▸ hk)
    · rw [h2] at hk; simp at hk; exact .inr (by omega)
  have hL'ne : blkOf L' ≠ some b := fun he => by
    rcases hL'b b he with h1 | h1
    · exact bL h1
    · omega
  rw [nnP_some]
  have hb2 : Blk w2 b #[sv L, sv W] 31 := (h.blk.chg hc1 fun h => h).chg hc2 fun he => bL he.symm
  refine stP_intro hb2 (by simp) fun w3 hc3 hb3 hs3 => ?_
  have hb3' : Blk w3 b #[sv L', sv W] 31 := by simpa [sv] using hb3
  have hoL3 : Own w3 26 1 L' (rowV l n ++ [sv x]) := hoL2.chg hc3 fun k hk he => by subst he; exact hL'ne hk
  have hoW3 : Own w3 26 1 W (rowV c n) := ((h.oW.chg hc1 fun _ _ h => h).chg hc2 fun k hk he => LW k he.symm hk).chg hc3 fun k hk he => by subst he; exact bW hk
  have hxL : ∀ k, blkOf x = some k → blkOf L ≠ some k := fun k hk he => hd k hk ⟨1, by omega, he⟩
  have hxW : ∀ k, blkOf x = some k → blkOf W ≠ some k := fun k hk he => hd k hk ⟨2, by omega, he⟩
  have hxb : blkOf x ≠ some b := fun he => hd b he ⟨0, by omega, rfl⟩
  have hx3 : Own w3 5 1 x (U8 xs) := ((hx.chg hc1 fun _ _ h => h).chg hc2 fun k hk he => hxL k hk he.symm).chg hc3 fun k hk he => by subst he; exact hxb hk
  rw [nnP_some]
  have hdr := (Drw.refl w3).drew
  have hcell : ∀ {w' : World}, Blk w' b #[sv L', sv W] 31 → w'.cell? ((⟨b, 0, none⟩ : Addr).add 1) = some (.slice W.a W.l W.c) := fun hb => by rw [add_mk, hb.cell]; rfl
  refine ldS_of (s := W) (hcell (hb3'.drw hdr)) ?_
  refine copied_ok (hx3.rd.drw hdr) (fun hn => by
    rcases hx3.2 with ⟨he, h0⟩ | ⟨g, cap, cur, he, _⟩
    · exact h0
    · injection he with e1 _ _; rw [hn] at e1; cases e1) hl fun w4 hc4 hb4 hs4 => ?_
  have hc4' : Chg Nil w3 w4 := (hdr.chg Nil).step hc4 fun _ _ h => h
  have hs3' : w3.drew.heap.size = w3.heap.size := rfl
  have hb34 := hb3'.chg hc4' fun h => h
  refine ⟨hcell hb34, ?_⟩
  refine newP_intro fun w5 hc5 hb5 hs5 => ?_
  have hb35 := hb34.chg hc5 fun h => h
  refine ⟨hcell hb35, ?_⟩
  have hc35 := chgNN' hc4' hc5
  have hoW5 := hoW3.chg hc35 fun _ _ h => h
  let c' : Slc := ⟨some ⟨w3.heap.size, 0, none⟩, xs.length, xs.length⟩
  refine apP_one TBE (s := W) (v := sv c') hoW5 hb5 rfl (by omega) (by omega) fun W' w6 hoW6 hl6 hc6 hblk6 hsz6 => ?_
  have hW'b : ∀ k, blkOf W' = some k → blkOf W = some k ∨ w4.heap.size ≤ k := fun k hk => by
    rcases hblk6 with h2 | h2
    · exact .inl (h2 ▸ hk)
    · rw [h2] at hk; simp at hk; exact .inr (by omega)
  have hW'ne : blkOf W' ≠ some b := fun he => by
    rcases hW'b b he with h1 | h1
    · exact bW h1
    · have := hc1.size; have := hc2.size; have := hc3.size; have := hc4'.size; omega
  rw [nnP_some]
  have hb6 : Blk w6 b #[sv L', sv W] 31 := hb35.chg hc6 fun he => bW he.symm
  rw [add_mk]
  refine stP_intro hb6 (by simp) fun w7 hc7 hb7 hs7 => ?_
  have hb7' : Blk w7 b #[sv L', sv W'] 31 := by simpa [sv] using hb7
  have s01 := hc1.size
  have s12 := hc2.size
  have s23 := hc3.size
  have s34 := hc4'.size
  have s45 := hc5.size
  have hL'lt := hoL3.lt
  -- what has changed in all
  have hall : Chg (fun k => k = b ∨ some k = blkOf L ∨ some k = blkOf W) w w7 := by
    have a1 : Chg (fun k => k = b ∨ some k = blkOf L ∨ some k = blkOf W) w w1 := hc1.mono fun _ _ h => h.elim
    have a2 := a1.step hc2 fun i hi he => .inr (.inl he)
    have a3 := a2.step hc3 fun i hi he => .inl he
    have a5 := a3.step hc35 fun i hi he => he.elim
    have a6 := a5.step hc6 fun i hi he => .inr (.inr he)
    exact a6.step hc7 fun i hi he => .inl he
  have oc' : Own w7 5 1 c' (U8 xs) := by
    have hb4' : Blk w4 w3.heap.size (U8 xs).toArray 5 := hb4
    have h0 : Own w4 5 1 c' (U8 xs) := by
      have := Own.new hb4' (by simp [maxLen]; omega)
      simpa [c'] using this
    refine ((h0.chg hc5 fun _ _ h => h).chg hc6 fun k hk he => ?_).chg hc7 fun k hk he => ?_
    · have : k = w3.heap.size := by simpa [c', blkOf, eq_comm] using hk
      have := hWlt k he.symm
      omega
    · have : k = w3.heap.size := by simpa [c', blkOf, eq_comm] using hk
      omega
  have fr : ∀ (y : Slc) (vs : List Value) (e : TypeId), Own w e 1 y vs → (∀ k, blkOf y = some k → blkOf L ≠ some k) → (∀ k, blkOf y = some k → blkOf W ≠ some k) → blkOf y ≠ some b → Own w7 e 1 y vs := fun y vs e hy h1 h2 h3 =>
    hy.chg hall fun k hk he => by
      rcases he with he | he | he
      · subst he; exact h3 hk
      · exact h1 k hk he.symm
      · exact h2 k hk he.symm
  have hoL7 : Own w7 26 1 L' (rowV l n ++ [sv x]) := ((hoL3.chg hc35 fun _ _ h => h).chg hc6 fun k hk he => by
    rcases hL'b k hk with h1 | h1
    · exact LW k h1 he.symm
    · have := hWlt k he.symm; omega).chg hc7 fun k hk he => by subst he; exact hL'ne hk
  have hoW7 : Own w7 26 1 W' (rowV c n ++ [sv c']) := hoW6.chg hc7 fun k hk he => by subst he; exact hW'ne hk
  -- who shares no block
  have sep1 : Sep (2 * n + 3) (obj b L' W l c) := h.sep.upd (p := 1) (H := w.heap.size) (by omega) h.lt (fun q hq hne => by unfold obj; simp only [if_neg hne]) hL'b
  have lt1 : ∀ q, q < 2 * n + 3 → ∀ k, blkOf (obj b L' W l c q) = some k → k < w3.heap.size := fun q hq k hk => by
    by_cases h1 : q = 1
    · subst h1; exact hL'lt k hk
    · have : obj b L' W l c q = obj b L W l c q := by unfold obj; simp only [if_neg h1]
      rw [this] at hk
      have := h.lt q hq k hk
      omega
  have sep2 : Sep (2 * n + 3) (obj b L' W' l c) := sep1.upd (p := 2) (H := w3.heap.size) (by omega) lt1 (fun q hq hne => by unfold obj; simp only [if_neg hne]) fun k hk => (hW'b k hk).imp id fun h => by omega
  have old2 : ∀ q, q < 2 * n + 3 → ∀ k, blkOf (obj b L' W' l c q) = some k → BkF b L W n l c k ∨ (w.heap.size ≤ k ∧ (q = 1 ∧ blkOf L' = some k ∨ q = 2 ∧ blkOf W' = some k)) := fun q hq k hk => by
    by_cases h1 : q = 1
    · subst h1
      rcases hL'b k hk with h2 | h2
      · exact .inl ⟨1, by omega, h2⟩
      · exact .inr ⟨h2, .inl ⟨rfl, hk⟩⟩
    · by_cases h2 : q = 2
      · subst h2
        rcases hW'b k hk with h3 | h3
        · exact .inl ⟨2, by omega, h3⟩
        · exact .inr ⟨by omega, .inr ⟨rfl, hk⟩⟩
      · have : obj b L' W' l c q = obj b L W l c q := by unfold obj; simp only [if_neg h1, if_neg h2]
        rw [this] at hk
        exact .inl ⟨q, hq, hk⟩
  have sep3 : Sep (2 * n + 3 + 1) (obj b L' W' (ext l n x) c) := sep2.add (fun q hq => by
      rcases obj_cases hq with rfl | rfl | rfl | ⟨i, hi, rfl⟩ | ⟨i, hi, rfl⟩
      · rfl
      · rfl
      · rfl
      · rw [objl, objl, ext_lt hi]
      · rw [objc, objc]) fun k hk q hq he => by
    rw [objl, ext_eq] at hk
    rcases old2 q hq k he with h1 | ⟨h1, _⟩
    · exact hd k hk h1
    · have := hxlt k hk; omega
  have sep4 : Sep (2 * n + 3 + 1 + 1) (obj b L' W' (ext l n x) (ext c n c')) := sep3.add (fun q hq => by
      rcases obj_cases (n := n + 1) (show q < 2 * (n + 1) + 3 by omega) with rfl | rfl | rfl | ⟨i, hi, rfl⟩ | ⟨i, hi, rfl⟩
      · rfl
      · rfl
      · rfl
      · rw [objl, objl]
      · rw [objc, objc, ext_lt (by omega)]) fun k hk q hq he => by
    rw [show 2 * n + 3 + 1 = 2 * n + 4 by omega, objc, ext_eq] at hk
    have hk' : k = w3.heap.size := by simpa [c', blkOf, eq_comm] using hk
    by_cases hq3 : q = 2 * n + 3
    · subst hq3
      rw [objl, ext_eq] at he
      have := hxlt k he; omega
    · by_cases h2 : q = 2
      · subst h2
        rcases hW'b k he with h3 | h3
        · have := hWlt k h3; omega
        · omega
      · have hq' : q < 2 * n + 3 := by omega
        have : obj b L' W' (ext l n x) c q = obj b L' W l c q := by
          rcases obj_cases hq' with rfl | rfl | rfl | ⟨i, hi, rfl⟩ | ⟨i, hi, rfl⟩
          · rfl
          · rfl
          · exact absurd rfl h2
          · rw [objl, objl, ext_lt hi]
          · rw [objc, objc]
        rw [this] at he
        have := lt1 q hq' k he; omega
  refine hK L' W' c' w7 ⟨hb7', by rw [rowV_ext]; exact hoL7, by rw [rowV_ext]; exact hoW7, fun i hi => ?_, fun i hi => ?_, sep4, fun i hi => ?_⟩ hall fun k hk => ?_
  · by_cases hin : i < n
    · rw [ext_lt hin, ext_lt hin]
      exact fr _ _ _ (h.ol i hin) (fun k hk => h.sep.dis (p := 2 * i + 3) (q := 1) (by omega) (by omega) (by omega) (by rw [objl]; exact hk)) (fun k hk => h.sep.dis (p := 2 * i + 3) (q := 2) (by omega) (by omega) (by omega) (by rw [objl]; exact hk)) (fun hk => h.sep.dis (p := 2 * i + 3) (q := 0) (by omega) (by omega) (by omega) (by rw [objl]; exact hk) rfl)
    · have : i = n := by omega
      subst this
      rw [ext_eq, ext_eq]
      exact fr _ _ _ hx hxL hxW hxb
  · by_cases hin : i < n
    · rw [ext_lt hin, ext_lt hin]
      exact fr _ _ _ (h.oc i hin) (fun k hk => h.sep.dis (p := 2 * i + 4) (q := 1) (by omega) (by omega) (by omega) (by rw [objc]; exact hk)) (fun k hk => h.sep.dis (p := 2 * i + 4) (q := 2) (by omega) (by omega) (by omega) (by rw [objc]; exact hk)) (fun hk => h.sep.dis (p := 2 * i + 4) (q := 0) (by omega) (by omega) (by omega) (by rw [objc]; exact hk) rfl)
    · have : i = n := by omega
      subst this
      rw [ext_eq, ext_eq]
      exact oc'
  · by_cases hin : i < n
    · rw [ext_lt hin]; exact h.few i hin
    · have : i = n := by omega
      subst this
      rw [ext_eq]; exact hl
  · obtain ⟨p, hp, hk⟩ := hk
    by_cases h3 : p = 2 * n + 3
    · subst h3; rw [objl, ext_eq] at hk; exact .inr (.inl hk)
    by_cases h4 : p = 2 * n + 4
    · subst h4; rw [objc, ext_eq] at hk
      have : k = w3.heap.size := by simpa [c', blkOf, eq_comm] using hk
      exact .inr (.inr (by omega))
    have hp' : p < 2 * n + 3 := by omega
    have : obj b L' W' (ext l n x) (ext c n c') p = obj b L' W' l c p := by
      rcases obj_cases hp' with rfl | rfl | rfl | ⟨i, hi, rfl⟩ | ⟨i, hi, rfl⟩
      · rfl
      · rfl
      · rfl
      · rw [objl, objl, ext_lt hi]
      · rw [objc, objc, ext_lt hi]
    rw [this] at hk
    rcases old2 p hp' k hk with h1 | ⟨h1, _⟩
    · exact .inl h1
    · exact .inr (.inr h1)
theorem whole_ok {w : World} {b : Nat} {L W : Slc} {n : Nat} {l c : Nat → Slc} {bs : Nat → List UInt8} {K : Bool → World → Prop} (hb : Blk w b #[sv L, sv W] 31) (hL : Rd w L (rowV l n)) (hW : Rd w W (rowV c n))
    (hl : ∀ i, i < n → Rd w (l i) (U8 (bs i))) (hc : ∀ i, i < n → Rd w (c i) (U8 (bs i))) (few : ∀ i, i < n → (bs i).length ≤ 9000000000000000000) (hn : n ≤ 1000000000000) (hK : ∀ w', Drw w w' → K true w') : c_preludelaw01_book_whole (some ⟨b, 0, none⟩) w K := by
  refine sim_preludelaw01_book_whole ?_
  unfold sh_preludelaw01_book_whole
  have hLl : L.l = n := by have := hL.len; simpa using this
  refine loopP_inv (fun st w1 => ∃ i : Nat, st.1 = (i : Int) ∧ i ≤ n ∧ Drw w w1) (fun st _ => n - st.1.toNat) ⟨0, rfl, Nat.zero_le _, Drw.refl w⟩ ?_
  rintro ⟨i0, u⟩ w1 next ⟨i, rfl, hi, hd⟩ hnext
  simp only
  have c0 : ∀ {w' : World}, Drw w w' → w'.cell? ⟨b, 0, none⟩ = some (.slice L.a L.l L.c) := fun h => by rw [(hb.drw h).cell]; rfl
  have c1 : ∀ {w' : World}, Drw w w' → w'.cell? ((⟨b, 0, none⟩ : Addr).add 1) = some (.slice W.a W.l W.c) := fun h => by rw [add_mk, (hb.drw h).cell]; rfl
  rw [nnP_some]
  refine ldS_of (c0 hd) ?_
  refine iteB_intro (fun h => ?_) (fun h => ?_)
  · have hlt : i < n := by simp [hLl] at h; omega
    rw [nnP_some]
    refine ldS_of (c0 hd.drew) ?_
    refine (hL.drw hd.drew).idx (by omega) (by simp; omega) fun ad had => ?_
    rw [Int.toNat_natCast, rowV_at l hlt] at had
    refine ldS_of had ?_
    rw [nnP_some]
    refine ldS_of (c1 hd.drew) ?_
    refine (hW.drw hd.drew).idx (by omega) (by simp; omega) fun ad had => ?_
    rw [Int.toNat_natCast, rowV_at c hlt] at had
    refine ldS_of had ?_
    refine same_ok ((hl i hlt).drw hd.drew) ((hc i hlt).drw hd.drew) (few i hlt) fun w2 hd2 => ?_
    refine iteB_neg (by simp) ?_
    rw [wrap_i64 (by omega)]
    exact hnext _ _ ⟨i + 1, by simp, hlt, hd.drew.trans hd2⟩ (by simp; omega)
  · exact hK w1 hd
structure BkX (w' : World) (b : Nat) (L W : Slc) (n : Nat) (l c : Nat → Slc) (bs : Nat → List UInt8) (q : Nat) : Prop where
  blk : q ≠ 0 → Blk w' b #[sv L, sv W] 31
  oL : q ≠ 1 → Own w' 26 1 L (rowV l n)
  oW : q ≠ 2 → Own w' 26 1 W (rowV c n)
  ol : ∀ i, i < n → 2 * i + 3 ≠ q → Own w' 5 1 (l i) (U8 (bs i))
  oc : ∀ i, i < n → 2 * i + 4 ≠ q → Own w' 5 1 (c i) (U8 (bs i))
theorem Bk.frame {w w' : World} {b : Nat} {L W : Slc} {n : Nat} {l c : Nat → Slc} {bs : Nat → List UInt8} (h : Bk w b L W n l c bs) {q : Nat} (hq : q < 2 * n + 3) (hc : Chg (fun k => some k = blkOf (obj b L W l c q)) w w') : BkX w' b L W n l c bs q :=
  ⟨fun hne => h.blk.chg hc fun he => h.sep.dis (p := 0) (by omega) hq (fun h => hne h.symm) (obj0 b L W l c) he.symm,
   fun hne => h.oL.chg hc fun k hk he => h.sep.dis (p := 1) (by omega) hq (fun h => hne h.symm) hk he.symm,
   fun hne => h.oW.chg hc fun k hk he => h.sep.dis (p := 2) (by omega) hq (fun h => hne h.symm) hk he.symm,
   fun i hi hne => (h.ol i hi).chg hc fun k hk he => h.sep.dis (p := 2 * i + 3) (by omega) hq hne (by rw [objl]; exact hk) he.symm,
   fun i hi hne => (h.oc i hi).chg hc fun k hk he => h.sep.dis (p := 2 * i + 4) (by omega) hq hne (by rw [objc]; exact hk) he.symm⟩
def mark (i n : Nat) : List UInt8 := (List.range n).map fun j => UInt8.ofNat (i * 7 + j)
@[simp] theorem mark_length (i n : Nat) : (mark i n).length = n := by simp [mark]
def fillAt (i j : Nat) (old : List UInt8) : List UInt8 := (mark i old.length).take j ++ old.drop j
theorem fillAt_length (i j : Nat) (old : List UInt8) (h : j ≤ old.length) : (fillAt i j old).length = old.length := by simp [fillAt]; omega
theorem fillAt_zero (i : Nat) (old : List UInt8) : fillAt i 0 old = old := by simp [fillAt]
theorem fillAt_all (i : Nat) (old : List UInt8) : fillAt i old.length old = mark i old.length := by
  unfold fillAt
  rw [List.take_of_length_le (by simp), List.drop_length, List.append_nil]
theorem fillAt_step (i j : Nat) (old : List UInt8) (h : j < old.length) : (fillAt i j old).set j (UInt8.ofNat (i * 7 + j)) = fillAt i (j + 1) old := by
  unfold fillAt
  have h1 : ((mark i old.length).take j).length = j := by simp; omega
  rw [List.set_append_right _ _ (by omega), h1, Nat.sub_self, List.drop_eq_getElem_cons h, List.set_cons_zero]
  rw [List.take_succ_eq_append_getElem (by simpa using h)]
  simp [mark]
def upd {α : Type} (f : Nat → α) (i : Nat) (x : α) : Nat → α := fun k => if k = i then x else f k
theorem upd_eq {α : Type} (f : Nat → α) (i : Nat) (x : α) : upd f i x i = x := if_pos rfl
theorem upd_ne {α : Type} {f : Nat → α} {i k : Nat} {x : α} (h : k ≠ i) : upd f i x k = f k := if_neg h
theorem rowV_upd (l : Nat → Slc) {n i : Nat} (h : i < n) (x : Slc) : (rowV l n).set i (sv x) = rowV (upd l i x) n := by
  apply List.ext_getElem?
  intro k
  rw [List.getElem?_set]
  by_cases hk : i = k
  · subst hk
    rw [if_pos rfl, if_pos (by simpa using h), rowV_at _ h, upd_eq]
  · rw [if_neg hk]
    by_cases hkn : k < n
    · rw [rowV_at _ hkn, rowV_at _ hkn, upd_ne (fun h => hk h.symm)]
    · rw [List.getElem?_eq_none (by simp; omega), List.getElem?_eq_none (by simp; omega)]
theorem U8_set' (cs : List UInt8) (j : Nat) (v : UInt8) : (U8 cs).set j (.int .u8 (v.toNat : Int)) = U8 (cs.set j v) := by simp [U8, List.map_set]
theorem wrap_u8_nat' (n : Nat) : IntKind.u8.wrap (n : Int) = ((UInt8.ofNat n).toNat : Int) := by
  rw [UInt8.toNat_ofNat']
  simp [IntKind.wrap, IntKind.signed, IntKind.bits]
/-- One byte of a list and of what it must hold. -/
theorem Bk.fill {w : World} {b : Nat} {L W : Slc} {n : Nat} {l c : Nat → Slc} {bs : Nat → List UInt8} (h : Bk w b L W n l c bs) {i j : Nat} {i' j' : Int} (hi' : i' = (i : Int)) (hj' : j' = (j : Int)) (hi : i < n) (hj : j < (bs i).length) {v : UInt8} {K : World → Prop}
    (hK : ∀ w', Bk w' b L W n l c (upd bs i ((bs i).set j v)) → Chg (BkF b L W n l c) w w' → K w') :
    nnP (some (⟨b, 0, none⟩ : Addr)) fun a17 => ldS a17 w fun s18 => idxP s18.a s18.l i' 1 fun a19 => ldS a19 w fun s20 => idxP s20.a s20.l j' 1 fun a21 => stP a21 (.int .u8 (v.toNat : Int)) w fun w22 =>
      nnP (some (⟨b, 0, none⟩ : Addr)) fun a23 => ldS (a23.add 1) w22 fun s24 => idxP s24.a s24.l i' 1 fun a25 => ldS a25 w22 fun s26 => idxP s26.a s26.l j' 1 fun a27 => stP a27 (.int .u8 (v.toNat : Int)) w22 fun w28 => K w28 := by
  subst hi'
  rw [nnP_some]
  refine ldS_of (s := L) (by rw [h.blk.cell]; rfl) ?_
  refine h.oL.rd.idx (by omega) (by simp; omega) fun ad had => ?_
  rw [Int.toNat_natCast, rowV_at l hi] at had
  refine ldS_of had ?_
  refine (h.ol i hi).set hj' (by simpa using hj) rfl fun w1 hx1 hc1 => ?_
  rw [U8_set'] at hx1
  have hF : Chg (fun k => some k = blkOf (obj b L W l c (2 * i + 3))) w w1 := by rw [objl]; exact hc1
  have X := h.frame (by omega) hF
  rw [nnP_some]
  refine ldS_of (s := W) (by rw [add_mk, (X.blk (by omega)).cell]; rfl) ?_
  refine (X.oW (by omega)).rd.idx (by omega) (by simp; omega) fun ad had => ?_
  rw [Int.toNat_natCast, rowV_at c hi] at had
  refine ldS_of had ?_
  refine (X.oc i hi (by omega)).set hj' (by simpa using hj) rfl fun w2 hx2 hc2 => ?_
  rw [U8_set'] at hx2
  have d : ∀ p, p < 2 * n + 3 → p ≠ 2 * i + 4 → ∀ k, blkOf (obj b L W l c p) = some k → ¬ (some k = blkOf (c i)) := fun p hp hne k hk he => h.sep.dis hp (q := 2 * i + 4) (by omega) hne hk (by rw [objc]; exact he.symm)
  refine hK w2 ⟨(X.blk (by omega)).chg hc2 (d 0 (by omega) (by omega) b rfl), (X.oL (by omega)).chg hc2 (d 1 (by omega) (by omega)), (X.oW (by omega)).chg hc2 (d 2 (by omega) (by omega)), fun k hk => ?_, fun k hk => ?_, h.sep, fun k hk => ?_⟩ ?_
  · by_cases hki : k = i
    · subst hki
      rw [upd_eq]
      exact hx1.chg hc2 fun q hq => d (2 * k + 3) (by omega) (by omega) q (by rw [objl]; exact hq)
    · rw [upd_ne hki]
      exact (X.ol k hk (by omega)).chg hc2 fun q hq => d (2 * k + 3) (by omega) (by omega) q (by rw [objl]; exact hq)
  · by_cases hki : k = i
    · subst hki
      rw [upd_eq]
      exact hx2
    · rw [upd_ne hki]
      exact (X.oc k hk (by omega)).chg hc2 fun q hq => d (2 * k + 4) (by omega) (by omega) q (by rw [objc]; exact hq)
  · by_cases hki : k = i
    · subst hki
      rw [upd_eq, List.length_set]
      exact h.few k hk
    · rw [upd_ne hki]
      exact h.few k hk
  · exact (hc1.mono fun k _ hk => ⟨2 * i + 3, by omega, by rw [objl]; exact hk.symm⟩).step hc2 fun k _ hk => ⟨2 * i + 4, by omega, by rw [objc]; exact hk.symm⟩
theorem Bk.congr {w : World} {b : Nat} {L W : Slc} {n : Nat} {l c : Nat → Slc} {bs bs' : Nat → List UInt8} (h : Bk w b L W n l c bs) (e : ∀ k, k < n → bs' k = bs k) : Bk w b L W n l c bs' :=
  ⟨h.blk, h.oL, h.oW, fun i hi => by rw [e i hi]; exact h.ol i hi, fun i hi => by rw [e i hi]; exact h.oc i hi, h.sep, fun i hi => by rw [e i hi]; exact h.few i hi⟩
end Go.Proofs.Ytmadhcoeiclalaa
