/- Look: looking a program over: lang.ways, moves, argument, look, Depths, Verify. -/
import Derived.Test.YthgkehldimldgaaDoorPr
import Derived.Test.YthgkehldimldgaaDoorRowI
set_option linter.unusedVariables false
set_option linter.unusedSimpArgs false
namespace Go.Lang
theorem put1_bound {m : Int} {d d' : List Int} {j : Int} (h : put1 m d j = some d') {B : Int → Prop} (hd : ∀ x ∈ d, B x) (hm : B m) : ∀ x ∈ d', B x := by
  unfold put1 at h
  split at h
  · split at h
    · cases h
    · cases h
      intro x hx
      rcases List.mem_or_eq_of_mem_set hx with h | h
      · exact hd x h
      · rw [h]; exact hm
  · cases h
theorem putAll_cons {m : Int} {j : Int} {r d : List Int} : putAll m (j :: r) d = (put1 m d j).bind (putAll m r) := rfl
theorem depths_e {a b c d : Int} {l : List Ins} (h : (depths a b c d l).2 ≠ 0) : (depths a b c d l).1 = [] := by
  unfold depths at h ⊢
  split
  · rfl
  · rename_i h1
    rw [if_neg h1] at h
    split
    · rfl
    · rename_i h2
      rw [if_neg h2] at h
      split
      · rename_i e he; rw [he] at h; exact absurd rfl h
      · rfl
theorem okP_rng {a b c d : Int} {n : Nat} (h : okP a b c d n = true) : (0 ≤ a ∧ a ≤ 16) ∧ (0 ≤ b ∧ b ≤ 16) ∧ (0 ≤ c ∧ c ≤ 16) ∧ (0 ≤ d ∧ d ≤ 16) ∧ n ≤ 256 := by
  simp [okP] at h
  omega
end Go.Lang
namespace Go.Proofs.YthgkehldimldgaaDoor
open Go Go.Sh Go.Pl Go.RowKit Go.Lang
theorem TI64 : ElT Tryd.prog 69 3 (.int .i64 0) 1 8 := ⟨by kernel_rfl, by kernel_rfl, rfl, by decide⟩
theorem ways_ok {x : Int × Int} {i : Nat} {w : World} {K : Slc → World → Prop} (hi : i ≤ 1000000)
    (hK : ∀ s w', Rd w' s (Is .i64 (wy x i)) → Ch [] w w' → Ge w.heap.size (blkOf s) → K s w') : c_lang_ways x.1 x.2 (i : Int) w K := by
  refine sim_lang_ways ?_
  unfold sh_lang_ways
  unfold wy at hK
  refine newB fun k1 w1 hc1 hb1 hk1 hs1 => ?_
  refine ldI_b (o := 0) hb1 rfl ?_
  have hw : IntKind.i64.wrap ((i : Int) + 1) = (i : Int) + 1 := wrap_i64 (by omega)
  rw [hw]
  have one : ∀ (v : Int) k w2, Ch [] w1 w2 → Blk w2 k #[.int .i64 v] 3 → Rd w2 ⟨some ⟨k, 0, none⟩, 1, 1⟩ (Is .i64 [v]) := fun v k w2 hc hb => by
    have := hb.rd (o := 0) (l := 1) (c := 1) (by simp) (by omega)
    simpa [Is] using this
  refine iteB_intro (fun h => ?_) (fun h0 => ?_)
  · rw [if_pos (.inl (by simpa using h))] at hK
    exact hK _ w1 (Rd.nil _ _) hc1 (fun k h => by cases h)
  refine iteB_intro (fun h => ?_) (fun h36 => ?_)
  · rw [if_pos (.inr (by simpa using h))] at hK
    exact hK _ w1 (Rd.nil _ _) hc1 (fun k h => by cases h)
  have h0 : ¬ x.1 = 0 := by simpa using h0
  have h36 : ¬ x.1 = 36 := by simpa using h36
  rw [if_neg (by omega)] at hK
  refine iteB_intro (fun h => ?_) (fun h30 => ?_)
  · rw [if_pos (by simpa using h)] at hK
    refine ldI_b hb1 rfl (newB fun k2 w2 hc2 hb2 hk2 hs2 => ?_)
    exact hK _ w2 (one _ _ _ hc2 hb2) (hc1.tr hc2) (fun k h => by cases h; have := hc1.size; simp only []; omega)
  rw [if_neg (by simpa using h30)] at hK
  refine iteB_intro (fun h => ?_) (fun h31 => ?_)
  · rw [if_pos (by simpa using h)] at hK
    refine ldI_b hb1 rfl (newB fun k2 w2 hc2 hb2 hk2 hs2 => ?_)
    refine hK _ w2 ?_ (hc1.tr hc2) (fun k h => by cases h; have := hc1.size; simp only []; omega)
    have := hb2.rd (o := 0) (l := 2) (c := 2) (by simp) (by omega)
    simpa [Is] using this
  rw [if_neg (by simpa using h31)] at hK
  refine newB fun k2 w2 hc2 hb2 hk2 hs2 => ?_
  exact hK _ w2 (one _ _ _ hc2 hb2) (hc1.tr hc2) (fun k h => by cases h; have := hc1.size; simp only []; omega)
set_option maxHeartbeats 4000000 in
theorem moves_ok {op : Int} {w : World} {K : Int → Int → World → Prop} (h0 : 0 ≤ op) (h1 : op < 37) (hK : K (mv op).1 (mv op).2 w) : c_lang_moves op w K := by
  refine sim_lang_moves ?_
  unfold sh_lang_moves
  have : op = 0 ∨ op = 1 ∨ op = 2 ∨ op = 3 ∨ op = 4 ∨ op = 5 ∨ op = 6 ∨ op = 7 ∨ op = 8 ∨ op = 9 ∨ op = 10 ∨ op = 11 ∨ op = 12 ∨ op = 13 ∨ op = 14 ∨ op = 15 ∨ op = 16 ∨ op = 17 ∨ op = 18 ∨ op = 19 ∨ op = 20 ∨ op = 21 ∨ op = 22 ∨ op = 23 ∨ op = 24 ∨ op = 25 ∨ op = 26 ∨ op = 27 ∨ op = 28 ∨ op = 29 ∨ op = 30 ∨ op = 31 ∨ op = 32 ∨ op = 33 ∨ op = 34 ∨ op = 35 ∨ op = 36 := by omega
  rcases this with rfl | rfl | rfl | rfl | rfl | rfl | rfl | rfl | rfl | rfl | rfl | rfl | rfl | rfl | rfl | rfl | rfl | rfl | rfl | rfl | rfl | rfl | rfl | rfl | rfl | rfl | rfl | rfl | rfl | rfl | rfl | rfl | rfl | rfl | rfl | rfl | rfl <;> exact hK
theorem argument_ok {a b c d : Int} {s : Slc} {is : List (Int × Int)} {i : Nat} {w : World} {K : Int → World → Prop} (hs : RdC w s is) (hi : i < is.length) (hok : okP a b c d is.length = true)
    (hK : ∀ w', Ch [] w w' → K (argE a b c d is.length is[i] i) w') : c_lang_argument a b c d s (i : Int) w K := by
  refine sim_lang_argument ?_
  unfold sh_lang_argument
  obtain ⟨ha, hb, hc, hd, hn⟩ := okP_rng hok
  have ls := hs.len
  refine newB fun k1 w1 hc1 hb1 hk1 hs1 => ?_
  refine ldS_b (s := s) hb1 rfl ?_
  refine (hs.ch0 hc1).idx rfl hi fun ad h1 h2 => ldI_of h1 (ldI_of h2 ?_)
  refine newIn fun k2 w2 hc2 hb2 hk2 hs2 => ?_
  replace hb1 := hb1.ch0 hc2
  have fin := hK w2 (hc1.tr hc2)
  generalize is[i] = x at *
  obtain ⟨op, v⟩ := x
  dsimp only at *
  refine ldI_b (o := 0) hb2 rfl ?_
  unfold argE at fin
  dsimp only at fin
  refine iteB_intro (fun h => ?_) (fun g1 => ?_)
  · rwa [if_pos (by simpa using h)] at fin
  rw [if_neg (by simpa using g1)] at fin
  have jump : (op = 30 ∨ op = 31) → ldI .i64 ((⟨k2, 0, none⟩ : Addr).add 1) w2 fun n12 => iteB (decide ((n12 : Int) ≤ (i : Int))) (K 33 w2) (ldI .i64 ((⟨k2, 0, none⟩ : Addr).add 1) w2 fun n13 => ldS ((⟨k1, 0, none⟩ : Addr).add 4) w2 fun s14 => iteB (decide ((n13 : Int) > (s14.l : Int))) (K 33 w2) (K 0 w2)) := fun hop => by
    rw [if_pos hop] at fin
    refine ldI_b hb2 rfl (iteB_intro (fun h => ?_) (fun h => ?_))
    · rwa [if_pos (.inl (by simpa using h))] at fin
    · refine ldI_b hb2 rfl (ldS_b (s := s) hb1 rfl (iteB_intro (fun h' => ?_) (fun h' => ?_)))
      · rwa [if_pos (.inr (by simp at h'; omega))] at fin
      · rwa [if_neg (by simp at h h'; omega)] at fin
  refine iteB_intro (fun h => jump (.inl (by simpa using h))) (fun g2 => ?_)
  refine iteB_intro (fun h => jump (.inr (by simpa using h))) (fun g3 => ?_)
  rw [if_neg (by simp at g2 g3; omega)] at fin
  have rng : ∀ m : Int, mostA a b c d op = m → ∀ m' : Int, m' = m - 1 → ldI .i64 ((⟨k2, 0, none⟩ : Addr).add 1) w2 fun n19 => iteB (decide ((n19 : Int) < 0)) (K 32 w2) (ldI .i64 ((⟨k2, 0, none⟩ : Addr).add 1) w2 fun n20 => iteB (decide ((n20 : Int) > m')) (K 32 w2) (K 0 w2)) := fun m hm m' hm' => by
    rw [hm] at fin
    refine ldI_b hb2 rfl (iteB_intro (fun h => ?_) (fun h => ?_))
    · rwa [if_neg (by simp at h; omega)] at fin
    · refine ldI_b hb2 rfl (iteB_intro (fun h' => ?_) (fun h' => ?_))
      · rwa [if_neg (by simp at h'; omega)] at fin
      · rwa [if_pos (by simp at h h'; omega)] at fin
  unfold mostA at rng
  refine iteB_intro (fun h => ldI_b hb1 rfl (rng d (by simp at h; rw [if_pos (by omega)]) _ (by rw [wrap_i64 (by omega)]))) (fun g4 => ?_)
  refine iteB_intro (fun h => ldI_b hb1 rfl (rng d (by simp at h; rw [if_pos (by omega)]) _ (by rw [wrap_i64 (by omega)]))) (fun g5 => ?_)
  rw [if_neg (by simp at g4 g5; omega)] at rng
  refine iteB_intro (fun h => ldI_b (o := 0) hb1 rfl (rng a (by simp at h; rw [if_pos (by omega)]) _ (by rw [wrap_i64 (by omega)]))) (fun g6 => ?_)
  rw [if_neg (by simp at g6; omega)] at rng
  refine iteB_intro (fun h => ldI_b hb1 rfl (rng b (by simp at h; rw [if_pos (by omega)]) _ (by rw [wrap_i64 (by omega)]))) (fun g7 => ?_)
  refine iteB_intro (fun h => ldI_b hb1 rfl (rng b (by simp at h; rw [if_pos (by omega)]) _ (by rw [wrap_i64 (by omega)]))) (fun g8 => ?_)
  rw [if_neg (by simp at g7 g8; omega)] at rng
  refine iteB_intro (fun h => ldI_b hb1 rfl (rng c (by simp at h; rw [if_pos (by omega)]) _ (by rw [wrap_i64 (by omega)]))) (fun g9 => ?_)
  refine iteB_intro (fun h => ldI_b hb1 rfl (rng c (by simp at h; rw [if_pos (by omega)]) _ (by rw [wrap_i64 (by omega)]))) (fun g10 => ?_)
  rw [if_neg (by simp at g9 g10; omega)] at rng
  exact rng 1 rfl 0 (by omega)
end Go.Proofs.YthgkehldimldgaaDoor
