/- VrT: the numbers of a run fit; the document's shift, compared, two. -/
import Derived.Test.YtlkgnfpjmafdkaaVrM
import Derived.Test.YtlkgnfpjmafdkaaSpell
set_option linter.unusedVariables false
set_option linter.unusedSimpArgs false
namespace Go.Vm
open Go Go.Lang
theorem wr_in (n : Int) : I64 (wr n) := by
  simp only [wr, IntKind.wrap, IntKind.signed, IntKind.bits]
  simp
  split <;> omega
theorem wr_wr2 (a : Int) : wr (wr a * 2) = wr (a * 2) := by
  simp only [wr, IntKind.wrap, IntKind.signed, IntKind.bits]
  simp
  split <;> split <;> split <;> omega
theorem tmod64 {x y : Int} (hx : I64 x) : I64 (x.tmod y) := by
  rcases Int.le_total 0 x with h | h
  · have h1 := Int.tmod_nonneg y h
    have h2 := Int.natAbs_tmod x y
    have h3 := Nat.mod_le x.natAbs y.natAbs
    constructor <;> omega
  · have h0 : x.tmod y = -((-x).tmod y) := by rw [Int.neg_tmod]; omega
    have h1 := Int.tmod_nonneg y (show 0 ≤ -x by omega)
    have h2 := Int.natAbs_tmod (-x) y
    have h3 := Nat.mod_le (-x).natAbs y.natAbs
    constructor <;> omega
theorem fdiv64 {x : Int} (k : Nat) (hx : I64 x) : I64 (x.fdiv (2 ^ k)) := by
  have hc : (0 : Int) < 2 ^ k := Int.pow_pos (by decide)
  rw [Int.fdiv_eq_ediv_of_nonneg _ (Int.le_of_lt hc)]
  rcases Int.le_total 0 x with h | h
  · have h1 := Int.ediv_nonneg h (Int.le_of_lt hc)
    have h2 := Int.ediv_le_self (2 ^ k) h
    constructor <;> omega
  · have h1 : x ≤ x / 2 ^ k := (Int.le_ediv_iff_mul_le hc).2 (by
      have := Int.mul_le_mul_of_nonpos_left h (show (1 : Int) ≤ 2 ^ k by omega)
      omega)
    have h2 : x / 2 ^ k ≤ 0 := by
      have := Int.ediv_le_ediv hc h
      simpa using this
    constructor <;> omega
theorem tr64 (b : Bool) : I64 (tr b) := by cases b <;> decide
theorem two64 {op x y : Int} (hx : I64 x) (hy : I64 y) : I64 (two op x y).1 := by
  have key : (fun r : Int × Int => I64 r.1) (two op x y) := by
    unfold two
    repeat' first
      | exact wr_in _
      | exact tr64 _
      | exact tmod64 hx
      | exact fdiv64 _ hx
      | exact (by decide : I64 0)
      | (refine pite (P := fun r : Int × Int => I64 r.1) (fun _ => ?_) (fun _ => ?_))
    all_goals (show I64 _; constructor <;> dsimp only <;> omega)
  exact key
/-- What is given fits; what a machine holds fits. -/
structure B64 (E : En) : Prop where
  args : ∀ v ∈ E.args, I64 v
  rs : ∀ c ∈ E.rs, I64 c.2
  is : ∀ x ∈ E.is, I64 x.2
structure M64 (m : Mc) : Prop where
  st : ∀ v ∈ m.st, I64 v
  lo : ∀ v ∈ m.lo, I64 v
theorem M64.hd {m : Mc} (h : M64 m) : I64 (m.st.headD 0) := by
  cases hs : m.st with
  | nil => decide
  | cons v r => exact h.st v (by rw [hs]; simp)
theorem M64.hd2 {m : Mc} (h : M64 m) : I64 (m.st.tail.headD 0) := by
  cases hs : m.st with
  | nil => decide
  | cons v r => cases r with
    | nil => simp; decide
    | cons u r => exact h.st u (by rw [hs]; simp)
theorem M64.tl {m : Mc} (h : M64 m) : ∀ v ∈ m.st.tail, I64 v := fun v hv => h.st v (List.mem_of_mem_tail hv)
theorem get64 {xs : List Int} (h : ∀ v ∈ xs, I64 v) (i : Nat) : I64 (xs[i]?.getD 0) := by
  cases hx : xs[i]? with
  | none => decide
  | some v => exact h v (List.mem_of_getElem? hx)
theorem rv64 {E : En} (h : B64 E) (i : Int) : I64 (rv E i) := by
  unfold rv
  cases hx : E.rs[i.toNat]? with
  | none => decide
  | some c =>
    dsimp only
    split
    · exact h.rs c (List.mem_of_getElem? hx)
    · decide
theorem M64.push {m : Mc} {v : Int} {r : List Int} (h : M64 m) (hv : I64 v) (hr : ∀ u ∈ r, I64 u) : M64 { m with st := v :: r } := ⟨fun u hu => by
  rcases List.mem_cons.1 hu with rfl | hu
  · exact hv
  · exact hr u hu, h.lo⟩
theorem M64.pop {m : Mc} {r : List Int} (h : M64 m) (hr : ∀ u ∈ r, I64 u) : M64 { m with st := r } := ⟨hr, h.lo⟩
theorem putAt64 {m : Mc} {i : Int} {p : Int × Int} (h : M64 m) : M64 (putAt m i p).1 := by
  unfold putAt
  split
  · exact h
  · exact ⟨h.st, h.lo⟩
theorem ex64 {E : En} {m : Mc} {x : Ins} (hB : B64 E) (hx : I64 x.2) (h : M64 m) : M64 (ex E m x).1 := by
  have key : (fun r : Mc × Int => M64 r.1) (ex E m x) := by
    unfold ex
    refine pite (P := fun r : Mc × Int => M64 r.1) (fun _ => h.push hx h.st) fun _ => ?_
    refine pite (P := fun r : Mc × Int => M64 r.1) (fun _ => h.pop h.tl) fun _ => ?_
    refine pite (P := fun r : Mc × Int => M64 r.1) (fun _ => h.push h.hd h.st) fun _ => ?_
    refine pite (P := fun r : Mc × Int => M64 r.1) (fun _ => h.push (get64 h.lo _) h.st) fun _ => ?_
    refine pite (P := fun r : Mc × Int => M64 r.1) (fun _ => ⟨h.tl, fun v hv => (List.mem_or_eq_of_mem_set hv).elim (h.lo v) fun e => e ▸ h.hd⟩) fun _ => ?_
    refine pite (P := fun r : Mc × Int => M64 r.1) (fun _ => h.push (get64 hB.args _) h.st) fun _ => ?_
    refine pite (P := fun r : Mc × Int => M64 r.1) (fun _ => h.push (rv64 hB _) h.st) fun _ => ?_
    refine pite (P := fun r : Mc × Int => M64 r.1) (fun _ => h.push (tr64 _) h.st) fun _ => ?_
    refine pite (P := fun r : Mc × Int => M64 r.1) (fun _ => pite (P := fun r : Mc × Int => M64 r.1) (fun _ => h) fun _ => h.push (rv64 hB _) h.tl) fun _ => ?_
    refine pite (P := fun r : Mc × Int => M64 r.1) (fun _ => h.push (wr_in _) h.tl) fun _ => ?_
    refine pite (P := fun r : Mc × Int => M64 r.1) (fun _ => h.push (tr64 _) h.tl) fun _ => ?_
    refine pite (P := fun r : Mc × Int => M64 r.1) (fun _ => putAt64 (h.pop h.tl)) fun _ => ?_
    refine pite (P := fun r : Mc × Int => M64 r.1) (fun _ => putAt64 h) fun _ => ?_
    refine pite (P := fun r : Mc × Int => M64 r.1) (fun _ => putAt64 (h.pop fun v hv => h.tl v (List.mem_of_mem_tail hv))) fun _ => ?_
    refine pite (P := fun r : Mc × Int => M64 r.1) (fun _ => pite (P := fun r : Mc × Int => M64 r.1) (fun _ => h) fun _ => ⟨h.tl, h.lo⟩) fun _ => ?_
    exact h.push (two64 h.hd2 h.hd) fun v hv => h.tl v (List.mem_of_mem_tail hv)
  exact key
theorem zs64 (d : Int) : ∀ v ∈ zs d, I64 v := fun v hv => by
  have := List.eq_of_mem_replicate hv
  subst this; decide
theorem step64 {E : En} {m : Mc} (hB : B64 E) (h : M64 m) : M64 (Vm.step E m) := by
  unfold Vm.step
  cases hx : E.is[m.pc]? with
  | none => exact h
  | some x =>
    dsimp only
    have ht : M64 (tick m) := ⟨h.st, h.lo⟩
    have he := ex64 hB (hB.is x (List.mem_of_getElem? hx)) ht
    have hf : ∀ e u, M64 (fault E (tick m) e u) := fun e u => ⟨fun v hv => (by cases hv), zs64 _⟩
    unfold act
    split
    · exact ⟨h.st, h.lo⟩
    split
    · exact ⟨h.st, h.lo⟩
    split
    · exact ⟨ht.tl, h.lo⟩
    split
    · exact hf _ _
    split
    · exact hf _ _
    · exact ⟨he.st, he.lo⟩
theorem init64 (E : En) : M64 (mc0 E) := ⟨fun v hv => (by cases hv), zs64 _⟩
end Go.Vm
namespace Go.Proofs.Ytlkgnfpjmafdkaa
open Go Go.Sh Go.Pl Go.RowKit Go.Lang Go.Vm Go.Names
theorem rtruth_ok {t : Bool} {w : World} {K : Int → World → Prop} (hK : K (tr t) w) : c_preluderef05_truth t w K := by
  refine sim_preluderef05_truth ?_
  unfold sh_preluderef05_truth
  cases t <;> exact hK
theorem u64_id {y : Int} (h0 : 0 ≤ y) (hy : I64 y) : IntKind.u64.wrap y = y := wrap_u64 ⟨h0, by omega⟩
theorem band1 (x : Int) : bAnd .i64 x 1 = x % 2 := by
  unfold bAnd
  have e : ((BitVec.ofInt 64 x &&& BitVec.ofInt 64 1).toNat : Int) = x % 2 := by
    rw [BitVec.toNat_and, BitVec.toNat_ofInt, BitVec.toNat_ofInt, show ((1 : Int) % ((2 ^ 64 : Nat) : Int)).toNat = 1 from rfl, Nat.and_one_is_mod]
    omega
  show IntKind.i64.wrap ((BitVec.ofInt 64 x &&& BitVec.ofInt 64 1).toNat : Int) = _
  rw [e, wrap_i64 (by omega)]
theorem half_neg {x : Int} (h : x < 0) (hx : I64 x) : IntKind.i64.wrap (Int.tdiv (IntKind.i64.wrap (x - x % 2)) 2) = x / 2 := by
  rw [wrap_i64 (x := x - x % 2) (by omega)]
  have e : x - x % 2 = x / 2 * 2 := by omega
  rw [e, Int.mul_tdiv_cancel _ (by decide), wrap_i64 (by omega)]
theorem half_pos {x : Int} (h : ¬ x < 0) (hx : I64 x) : IntKind.i64.wrap (Int.tdiv x 2) = x / 2 := by
  rw [Int.tdiv_eq_ediv_of_nonneg (by omega), wrap_i64 (by omega)]
/-- What the document's shift gives. -/
theorem shift_ok {l : Bool} {x y : Int} {w : World} {K : Int → World → Prop} (hx : I64 x) (h0 : 0 ≤ y) (hy : I64 y) (hK : K (if l then Vm.wr (x * 2 ^ min (IntKind.u64.wrap y).toNat (IntKind.bits .i64)) else x.fdiv (2 ^ min (IntKind.u64.wrap y).toNat (IntKind.bits .i64))) w) : c_preluderef05_shift l x y w K := by
  refine sim_preluderef05_shift ?_
  unfold sh_preluderef05_shift
  rw [u64_id h0 hy, show IntKind.bits .i64 = 64 from rfl] at hK
  refine loopP_inv (fun st w' => ∃ k : Nat, st.2.1 = (k : Int) ∧ k ≤ min y.toNat 64 ∧ st.1 = (if l then Vm.wr (x * 2 ^ k) else x.fdiv (2 ^ k)) ∧ w' = w) (fun st _ => 64 - st.2.1.toNat) ⟨0, rfl, Nat.zero_le _, by
    cases l
    · simp
    · simp [wrap_i64 hx, Vm.wr], rfl⟩ ?_
  rintro ⟨a, k0, u⟩ w' next ⟨k, rfl, hk, ha, rfl⟩ hnext
  dsimp only at ha ⊢
  have fin : ¬ k < min y.toNat 64 → K a w' := fun h => by
    have : k = min y.toNat 64 := by omega
    rw [ha, this]; exact hK
  refine iteB_dec (fun h1 => ?_) fun h1 => fin (by omega)
  refine iteB_dec (fun h2 => ?_) fun h2 => fin (by omega)
  have hw : IntKind.i64.wrap ((k : Int) + 1) = ((k + 1 : Nat) : Int) := by rw [wrap_i64 (by omega)]; omega
  rw [hw]
  cases l with
  | true =>
    refine iteB_pos rfl ?_
    refine hnext _ _ ⟨k + 1, rfl, by omega, ?_, rfl⟩ (by simp; omega)
    simp only [if_true] at ha ⊢
    rw [ha, Int.pow_succ, ← Int.mul_assoc]
    exact wr_wr2 _
  | false =>
    refine iteB_neg rfl ?_
    simp only [Bool.false_eq_true, if_false] at ha
    have ha64 : I64 a := ha ▸ fdiv64 k hx
    have step : a / 2 = x.fdiv (2 ^ (k + 1)) := by
      have hc : (0 : Int) ≤ 2 ^ k := Int.le_of_lt (Int.pow_pos (by decide))
      have hc' : (0 : Int) ≤ 2 ^ (k + 1) := Int.le_of_lt (Int.pow_pos (by decide))
      rw [ha, Int.fdiv_eq_ediv_of_nonneg _ hc, Int.fdiv_eq_ediv_of_nonneg _ hc', Int.pow_succ, Int.ediv_ediv, if_neg (fun h => absurd h.1 (by omega)), Int.sub_zero]
    refine iteB_dec (fun hn => ⟨by decide, ?_⟩) fun hn => ⟨by decide, ?_⟩
    · rw [band1, half_neg hn ha64]
      exact hnext _ _ ⟨k + 1, rfl, by omega, by simpa using step, rfl⟩ (by simp; omega)
    · rw [half_pos hn ha64]
      exact hnext _ _ ⟨k + 1, rfl, by omega, by simpa using step, rfl⟩ (by simp; omega)
set_option maxHeartbeats 1000000 in
theorem rcomp_ok {op : Nat} {x y : Int} {w : World} {K : Int → World → Prop} (h : 22 ≤ op ∧ op ≤ 29) (hK : K (two op x y).1 w) : c_preluderef05_compared (spell op) x y w K := by
  refine sim_preluderef05_compared ?_
  unfold sh_preluderef05_compared
  have g0 : (0 : Int) ≤ (op : Int) := by omega
  have g1 : (op : Int) < 37 := by omega
  rw [sE22 g0 g1, sE23 g0 g1, sE24 g0 g1, sE25 g0 g1, sE26 g0 g1, sE27 g0 g1, sE28 g0 g1]
  have hops : op = 22 ∨ op = 23 ∨ op = 24 ∨ op = 25 ∨ op = 26 ∨ op = 27 ∨ op = 28 ∨ op = 29 := by omega
  rcases hops with rfl | rfl | rfl | rfl | rfl | rfl | rfl | rfl
  · exact iteB_pos rfl (rtruth_ok hK)
  · exact iteB_neg rfl (iteB_pos rfl (rtruth_ok hK))
  · exact iteB_neg rfl (iteB_neg rfl (iteB_pos rfl (rtruth_ok hK)))
  · exact iteB_neg rfl (iteB_neg rfl (iteB_neg rfl (iteB_pos rfl (rtruth_ok hK))))
  · exact iteB_neg rfl (iteB_neg rfl (iteB_neg rfl (iteB_neg rfl (iteB_pos rfl (rtruth_ok hK)))))
  · exact iteB_neg rfl (iteB_neg rfl (iteB_neg rfl (iteB_neg rfl (iteB_neg rfl (iteB_pos rfl (rtruth_ok hK))))))
  · have e : (two ((28 : Nat) : Int) x y).1 = min x y := rfl
    rw [e] at hK
    refine iteB_neg rfl (iteB_neg rfl (iteB_neg rfl (iteB_neg rfl (iteB_neg rfl (iteB_neg rfl (iteB_pos rfl (iteB_dec (fun h => ?_) fun h => ?_)))))))
    · rwa [Int.min_eq_right (by omega)] at hK
    · rwa [Int.min_eq_left (by omega)] at hK
  · have e : (two ((29 : Nat) : Int) x y).1 = max x y := rfl
    rw [e] at hK
    refine iteB_neg rfl (iteB_neg rfl (iteB_neg rfl (iteB_neg rfl (iteB_neg rfl (iteB_neg rfl (iteB_neg rfl (iteB_dec (fun h => ?_) fun h => ?_)))))))
    · rwa [Int.max_eq_right (by omega)] at hK
    · rwa [Int.max_eq_left (by omega)] at hK
set_option maxHeartbeats 2000000 in
/-- What the document's joining of two numbers gives. -/
theorem rtwo_ok {op : Nat} {x y : Int} {w : World} {K : Int → Int → World → Prop} (h2 : isTwo op) (hx : I64 x) (hy : I64 y) (hK : K (two op x y).1 (two op x y).2 w) : c_preluderef05_two (spell op) x y w K := by
  refine sim_preluderef05_two ?_
  unfold sh_preluderef05_two
  have g0 : (0 : Int) ≤ (op : Int) := by omega
  have g1 : (op : Int) < 37 := by unfold isTwo at h2; omega
  rw [sE10 g0 g1, sE11 g0 g1, sE12 g0 g1, sE13 g0 g1, sE14 g0 g1, sE15 g0 g1, sE16 g0 g1, sE17 g0 g1, sE18 g0 g1, sE19 g0 g1]
  by_cases hc : 22 ≤ op
  · have e2 : (two op x y).2 = 0 := by
      have hops : op = 22 ∨ op = 23 ∨ op = 24 ∨ op = 25 ∨ op = 26 ∨ op = 27 ∨ op = 28 ∨ op = 29 := by unfold isTwo at h2; omega
      rcases hops with rfl | rfl | rfl | rfl | rfl | rfl | rfl | rfl <;> rfl
    rw [e2] at hK
    have hle : op ≤ 29 := by unfold isTwo at h2; omega
    refine iteB_neg (by simp; omega) (iteB_neg (by simp; omega) (iteB_neg (by simp; omega) (iteB_neg (by simp; omega) (iteB_neg (by simp; omega) (iteB_neg (by simp; omega) (iteB_neg (by simp; omega) (iteB_neg (by simp; omega) (iteB_neg (by simp; omega) (iteB_neg (by simp; omega) ?_)))))))))
    exact rcomp_ok ⟨hc, hle⟩ hK
  have hops : op = 10 ∨ op = 11 ∨ op = 12 ∨ op = 13 ∨ op = 14 ∨ op = 15 ∨ op = 16 ∨ op = 17 ∨ op = 18 ∨ op = 19 := by unfold isTwo at h2; omega
  rcases hops with rfl | rfl | rfl | rfl | rfl | rfl | rfl | rfl | rfl | rfl
  · exact iteB_pos rfl hK
  · exact iteB_neg rfl (iteB_pos rfl hK)
  · exact iteB_neg rfl (iteB_neg rfl (iteB_pos rfl hK))
  · refine iteB_neg rfl (iteB_neg rfl (iteB_neg rfl (iteB_pos rfl (iteB_eq (fun h => ?_) fun h => ?_))))
    · simpa [two, h] using hK
    have e : two ((13 : Nat) : Int) x y = (Vm.wr (x.tdiv y), 0) := by simp [two, h]
    rw [e] at hK
    refine iteB_eq (fun h1 => rtruth_ok ?_) fun h1 => iteB_pos rfl ⟨h, hK⟩
    subst h1
    have e1 : IntKind.i64.wrap (IntKind.i64.wrap (0 - x) * tr (((13 : Nat) : Int) == 13)) = Vm.wr (x.tdiv (-1)) := by
      rw [show tr (((13 : Nat) : Int) == 13) = 1 from rfl, Int.mul_one, Int.tdiv_neg, Int.tdiv_one, show (0 : Int) - x = -x by omega]
      exact wrap_i64 (wr_in _)
    rw [e1]; exact hK
  · refine iteB_neg rfl (iteB_neg rfl (iteB_neg rfl (iteB_neg rfl (iteB_pos rfl (iteB_eq (fun h => ?_) fun h => ?_)))))
    · simpa [two, h] using hK
    have e : two ((14 : Nat) : Int) x y = (x.tmod y, 0) := by simp [two, h]
    rw [e] at hK
    refine iteB_eq (fun h1 => rtruth_ok ?_) fun h1 => iteB_neg rfl ⟨h, hK⟩
    subst h1
    have e1 : IntKind.i64.wrap (IntKind.i64.wrap (0 - x) * tr (((14 : Nat) : Int) == 13)) = x.tmod (-1) := by
      rw [show tr (((14 : Nat) : Int) == 13) = 0 from rfl, Int.mul_zero, Int.tmod_neg, Int.tmod_one]
      rfl
    rw [e1]; exact hK
  · exact iteB_neg rfl (iteB_neg rfl (iteB_neg rfl (iteB_neg rfl (iteB_neg rfl (iteB_pos rfl hK)))))
  · exact iteB_neg rfl (iteB_neg rfl (iteB_neg rfl (iteB_neg rfl (iteB_neg rfl (iteB_neg rfl (iteB_pos rfl hK))))))
  · exact iteB_neg rfl (iteB_neg rfl (iteB_neg rfl (iteB_neg rfl (iteB_neg rfl (iteB_neg rfl (iteB_neg rfl (iteB_pos rfl hK)))))))
  · refine iteB_neg rfl (iteB_neg rfl (iteB_neg rfl (iteB_neg rfl (iteB_neg rfl (iteB_neg rfl (iteB_neg rfl (iteB_neg rfl (iteB_pos rfl (iteB_dec (fun h => ?_) fun h => ?_)))))))))
    · simpa [two, h] using hK
    refine shift_ok hx (by omega) hy ?_
    rw [if_pos (by decide)]
    simpa [two, h] using hK
  · refine iteB_neg rfl (iteB_neg rfl (iteB_neg rfl (iteB_neg rfl (iteB_neg rfl (iteB_neg rfl (iteB_neg rfl (iteB_neg rfl (iteB_neg rfl (iteB_pos rfl (iteB_dec (fun h => ?_) fun h => ?_))))))))))
    · simpa [two, h] using hK
    refine shift_ok hx (by omega) hy ?_
    rw [if_neg (by decide)]
    simpa [two, h] using hK
end Go.Proofs.Ytlkgnfpjmafdkaa
