/- RefD: the document's looking over: Takes, argument, Next. -/
import Derived.Test.YthgkehldimldgaaDoorSpell
import Derived.Test.YthgkehldimldgaaDoorLookB
set_option linter.unusedVariables false
set_option linter.unusedSimpArgs false
namespace Go.Lang
/-- Where the document says that an instruction goes to. -/
def nx (x : Ins) (i : Nat) : List Int := if x.1 = 0 ∨ x.1 = 36 then [] else if x.1 = 30 then [x.2] else if x.1 = 31 then [(i : Int) + 1, x.2] else [(i : Int) + 1]
theorem nx_wy (x : Ins) (i : Nat) : nx x i = wy x i ∨ ∃ a b, wy x i = [a, b] ∧ nx x i = [b, a] := by
  unfold nx wy
  split
  · exact .inl rfl
  · split
    · exact .inl rfl
    · split
      · exact .inr ⟨_, _, rfl, rfl⟩
      · exact .inl rfl
theorem putAll_nx (v : Int) (d : List Int) (x : Ins) (i : Nat) : putAll v (nx x i) d = putAll v (wy x i) d := by
  rcases nx_wy x i with h | ⟨a, b, h1, h2⟩
  · rw [h]
  · rw [h1, h2, putAll_swap]
theorem most1_nx (e : List Int) (x : Ins) (i : Nat) : most1 e (nx x i) 0 = most1 e (wy x i) 0 := by
  rcases nx_wy x i with h | ⟨a, b, h1, h2⟩
  · rw [h]
  · rw [h1, h2]
    simp only [most1]
    omega
theorem nx_mem {x : Ins} {i : Nat} {t : Int} (h : t ∈ nx x i) : t ∈ wy x i := by
  rcases nx_wy x i with h' | ⟨a, b, h1, h2⟩
  · rwa [h'] at h
  · rw [h2] at h; rw [h1]; simp at h ⊢; omega
end Go.Lang
namespace Go.Proofs.YthgkehldimldgaaDoor
open Go Go.Sh Go.Pl Go.RowKit Go.Lang Go.Names
set_option maxHeartbeats 4000000 in
theorem takes_ok {op : Int} {w : World} {K : Int → Int → World → Prop} (h0 : 0 ≤ op) (h1 : op < 37) (hK : ∀ w', Ch [] w w' → K (mv op).1 (mv op).2 w') : c_preluderef03_Takes op w K := by
  refine sim_preluderef03_Takes ?_
  unfold sh_preluderef03_Takes
  refine refSpell_ok fun w1 (hc1 : Ch [] w w1) => ?_
  rw [sE0 h0 h1, sE33 h0 h1, sE30 h0 h1, sE1 h0 h1, sE4 h0 h1, sE6 h0 h1, sE7 h0 h1, sE8 h0 h1, sE2 h0 h1, sE5 h0 h1, sE31 h0 h1, sE32 h0 h1, sE35 h0 h1, sE36 h0 h1, sE9 h0 h1, sE20 h0 h1, sE21 h0 h1, sE3 h0 h1, sE34 h0 h1]
  replace hK := hK w1 hc1
  rcases op_cases h0 h1 with rfl | rfl | rfl | rfl | rfl | rfl | rfl | rfl | rfl | rfl | rfl | rfl | rfl | rfl | rfl | rfl | rfl | rfl | rfl | rfl | rfl | rfl | rfl | rfl | rfl | rfl | rfl | rfl | rfl | rfl | rfl | rfl | rfl | rfl | rfl | rfl | rfl <;> exact hK
theorem isB_jz {op : Int} (h0 : 0 ≤ op) (h1 : op < 37) : isB op (ByteArray.mk #[106, 117, 109, 112]) (ByteArray.mk #[122, 101, 114, 111]) (ByteArray.mk #[]) (ByteArray.mk #[]) = (op == 30 || op == 31) := by
  have e := sEn h0 h1
  have e30 := sE30 h0 h1
  have e31 := sE31 h0 h1
  rw [seq_eq] at e e30 e31
  unfold isB
  rw [e, e30, e31]
  simp
theorem refArg_ok {a b c d : Int} {s : Slc} {x : Int × Int} {w : World} {K : Bool → World → Prop} (h0 : 0 ≤ x.1) (h1 : x.1 < 37)
    (hK : ∀ w', Ch [] w w' → K (decide (x.1 = 1 ∨ x.1 = 30 ∨ x.1 = 31 ∨ (0 ≤ x.2 ∧ x.2 < mostA a b c d x.1))) w') : c_preluderef03_argument a b c d s x.1 x.2 w K := by
  refine sim_preluderef03_argument ?_
  unfold sh_preluderef03_argument
  obtain ⟨op, v⟩ := x
  dsimp only at h0 h1 hK ⊢
  refine newB fun k1 w1 hc1 hb1 hk1 hs1 => ?_
  refine newB fun k2 w2 hc2 hb2 hk2 hs2 => ?_
  refine ldI_b (o := 0) hb2 rfl ?_
  refine refSpell_ok fun w3 (hc3 : Ch [] w2 w3) => ?_
  replace hb1 := hb1.ch0 (hc2.tr hc3)
  replace hb2 := hb2.ch0 hc3
  have fin := hK w3 ((hc1.tr hc2).tr hc3)
  rw [sE1 h0 h1, sE30 h0 h1, sE31 h0 h1, sE4 h0 h1, sE5 h0 h1, sE6 h0 h1, sE7 h0 h1, sE8 h0 h1, sE32 h0 h1, sE33 h0 h1]
  have yes : (op = 1 ∨ op = 30 ∨ op = 31) → K true w3 := fun h => by
    rwa [decide_eq_true (by omega)] at fin
  refine iteB_intro (fun h => yes (by simp at h; omega)) (fun g1 => ?_)
  refine iteB_intro (fun h => yes (by simp at h; omega)) (fun g2 => ?_)
  refine iteB_intro (fun h => yes (by simp at h; omega)) (fun g3 => ?_)
  have g : ¬ (op = 1 ∨ op = 30 ∨ op = 31) := by simp at g1 g2 g3; omega
  have rng : ∀ m : Int, mostA a b c d op = m → ldI .i64 ((⟨k2, 0, none⟩ : Addr).add 1) w3 fun n9 => iteB (decide ((n9 : Int) ≥ 0)) (ldI .i64 ((⟨k2, 0, none⟩ : Addr).add 1) w3 fun n10 => K (decide ((n10 : Int) < m)) w3) (K false w3) := fun m hm => by
    rw [hm] at fin
    refine ldI_b hb2 rfl (iteB_intro (fun h => ldI_b hb2 rfl ?_) (fun h => ?_))
    · have e : decide (op = 1 ∨ op = 30 ∨ op = 31 ∨ (0 ≤ v ∧ v < m)) = decide (v < m) := by
        simp at h
        by_cases hv : v < m
        · rw [decide_eq_true hv, decide_eq_true (by omega)]
        · rw [decide_eq_false hv, decide_eq_false (by omega)]
      rwa [e] at fin
    · rwa [decide_eq_false (by simp at h; omega)] at fin
  unfold mostA at rng
  refine iteB_intro (fun h => ldI_b hb1 rfl (rng d (by simp at h; rw [if_pos (by omega)]))) (fun g4 => ?_)
  refine iteB_intro (fun h => ldI_b hb1 rfl (rng d (by simp at h; rw [if_pos (by omega)]))) (fun g5 => ?_)
  rw [if_neg (by simp at g4 g5; omega)] at rng
  refine iteB_intro (fun h => ldI_b (o := 0) hb1 rfl (rng a (by simp at h; rw [if_pos (by omega)]))) (fun g6 => ?_)
  rw [if_neg (by simp at g6; omega)] at rng
  refine iteB_intro (fun h => ldI_b hb1 rfl (rng b (by simp at h; rw [if_pos (by omega)]))) (fun g7 => ?_)
  refine iteB_intro (fun h => ldI_b hb1 rfl (rng b (by simp at h; rw [if_pos (by omega)]))) (fun g8 => ?_)
  rw [if_neg (by simp at g7 g8; omega)] at rng
  refine iteB_intro (fun h => ldI_b hb1 rfl (rng c (by simp at h; rw [if_pos (by omega)]))) (fun g9 => ?_)
  refine iteB_intro (fun h => ldI_b hb1 rfl (rng c (by simp at h; rw [if_pos (by omega)]))) (fun g10 => ?_)
  refine ldI_b hb2 rfl ?_
  have em : mostA a b c d op = 1 := by
    simp at g4 g5 g6 g7 g8 g9 g10
    unfold mostA
    rw [if_neg (by omega), if_neg (by omega), if_neg (by omega), if_neg (by omega)]
  rw [em] at fin
  have e : decide (op = 1 ∨ op = 30 ∨ op = 31 ∨ (0 ≤ v ∧ v < 1)) = (v == 0) := by
    by_cases hv : v = 0
    · rw [decide_eq_true (by omega)]; simp [hv]
    · rw [decide_eq_false (by omega)]; simp [hv]
  rwa [e] at fin
theorem next_ok {a b c d : Int} {s : Slc} {is : List (Int × Int)} {i : Nat} {w : World} {K : Slc → World → Prop} (hs : RdC w s is) (hi : i < is.length) (hl : i ≤ 1000000) (h0 : 0 ≤ is[i].1) (h1 : is[i].1 < 37)
    (hK : ∀ s' w', Rd w' s' (Is .i64 (nx is[i] i)) → Ch [] w w' → Ge w.heap.size (blkOf s') → K s' w') : c_preluderef03_Next a b c d s (i : Int) w K := by
  refine sim_preluderef03_Next ?_
  unfold sh_preluderef03_Next
  refine newB fun k1 w1 hc1 hb1 hk1 hs1 => ?_
  refine ldS_b (s := s) hb1 rfl ?_
  refine (hs.ch0 hc1).idx rfl hi fun ad g1 g2 => ldI_of g1 (ldI_of g2 ?_)
  refine newIn fun k2 w2 hc2 hb2 hk2 hs2 => ?_
  refine ldI_b (o := 0) hb2 rfl ?_
  refine refSpell_ok fun w3 (hc3 : Ch [] w2 w3) => ?_
  replace hb2 := hb2.ch0 hc3
  have hc03 := (hc1.tr hc2).tr hc3
  have hw : IntKind.i64.wrap ((i : Int) + 1) = (i : Int) + 1 := wrap_i64 (by omega)
  rw [sE0 h0 h1, sE36 h0 h1, sE30 h0 h1, sE31 h0 h1, hw]
  generalize is[i] = x at *
  unfold nx at hK
  have one : ∀ (v : Int) k w4, Ch [] w3 w4 → Blk w4 k #[.int .i64 v] 3 → Rd w4 ⟨some ⟨k, 0, none⟩, 1, 1⟩ (Is .i64 [v]) := fun v k w4 hc hb => by
    have := hb.rd (o := 0) (l := 1) (c := 1) (by simp) (by omega)
    simpa [Is] using this
  refine iteB_intro (fun h => ?_) (fun q0 => ?_)
  · rw [if_pos (.inl (by simpa using h))] at hK
    exact hK _ w3 (Rd.nil _ _) hc03 (fun k h => by cases h)
  refine iteB_intro (fun h => ?_) (fun q36 => ?_)
  · rw [if_pos (.inr (by simpa using h))] at hK
    exact hK _ w3 (Rd.nil _ _) hc03 (fun k h => by cases h)
  have q0 : ¬ x.1 = 0 := by simpa using q0
  have q36 : ¬ x.1 = 36 := by simpa using q36
  rw [if_neg (by omega)] at hK
  have z := hc03.size
  refine iteB_intro (fun h => ?_) (fun q30 => ?_)
  · rw [if_pos (by simpa using h)] at hK
    refine ldI_b hb2 rfl (newB fun k4 w4 hc4 hb4 hk4 hs4 => ?_)
    exact hK _ w4 (one _ _ _ hc4 hb4) (hc03.tr hc4) (fun k h => by cases h; simp only []; omega)
  rw [if_neg (by simpa using q30)] at hK
  refine iteB_intro (fun h => ?_) (fun q31 => ?_)
  · rw [if_pos (by simpa using h)] at hK
    refine ldI_b hb2 rfl (newB fun k4 w4 hc4 hb4 hk4 hs4 => ?_)
    refine hK _ w4 ?_ (hc03.tr hc4) (fun k h => by cases h; simp only []; omega)
    have := hb4.rd (o := 0) (l := 2) (c := 2) (by simp) (by omega)
    simpa [Is] using this
  rw [if_neg (by simpa using q31)] at hK
  refine newB fun k4 w4 hc4 hb4 hk4 hs4 => ?_
  exact hK _ w4 (one _ _ _ hc4 hb4) (hc03.tr hc4) (fun k h => by cases h; simp only []; omega)
end Go.Proofs.YthgkehldimldgaaDoor
