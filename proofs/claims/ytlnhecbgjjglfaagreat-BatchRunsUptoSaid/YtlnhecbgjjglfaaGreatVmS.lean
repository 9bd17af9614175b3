/- VmS: vm's machine: write, fail, tell, reckon, Step. -/
import Derived.Test.YtlnhecbgjjglfaaGreatVmM
set_option linter.unusedVariables false
set_option linter.unusedSimpArgs false
namespace Go.Vm
open Go Go.Lang
theorem top1 {m : Mc} (h : 1 ≤ (m.st.length : Int)) : ∃ v r, m.st = v :: r := by
  cases hs : m.st with
  | nil => rw [hs] at h; simp at h
  | cons v r => exact ⟨v, r, rfl⟩
theorem top2 {m : Mc} (h : 2 ≤ (m.st.length : Int)) : ∃ y x r, m.st = y :: x :: r := by
  cases hs : m.st with
  | nil => rw [hs] at h; simp at h
  | cons y r =>
    cases r with
    | nil => rw [hs] at h; simp at h
    | cons x r => exact ⟨y, x, r, rfl⟩
end Go.Vm
namespace Go.Pl
open Go Go.Sh Go.RowKit
theorem made2 (n : Nat) : (madeCells (Value.agg #[.int .i64 0, .int .i64 0]).cells (n * 2)).toList = List.replicate (n * 2) (.int .i64 0) := by
  apply List.ext_getElem?
  intro i
  show (madeCells #[.int .i64 0, .int .i64 0] (n * 2)).toList[i]? = _
  unfold madeCells
  simp only [Array.toList_map, List.getElem?_map, Array.toList_range]
  rw [List.getElem?_replicate]
  by_cases hi : i < n * 2
  · rw [if_pos hi]
    rw [List.getElem?_range hi]
    simp only [Option.map_some]
    have : i % 2 = 0 ∨ i % 2 = 1 := by omega
    rcases this with h | h
    · show some (#[Value.int .i64 0, .int .i64 0][i % 2]!) = _
      rw [h]; rfl
    · show some (#[Value.int .i64 0, .int .i64 0][i % 2]!) = _
      rw [h]; rfl
  · rw [if_neg hi, List.getElem?_eq_none (by simp; omega)]
    rfl
theorem ldV_b {w : World} {b o : Nat} {cur : Array Value} {t : TypeId} {K : Value → Prop} {v : Value} (h : Blk w b cur t) (hv : cur[o]? = some v) (hK : K v) : ldV ((⟨b, 0, none⟩ : Addr).add o) w K := ⟨v, by rw [add_mk, Nat.zero_add, h.cell]; exact hv, hK⟩
theorem newP_and {cells : Array Value} {t : TypeId} {w : World} {K : Addr → World → Prop} {Q : World → Prop} (hq : ∀ w', Ch [] w w' → Q w') (h : newP cells t w K) : newP cells t w (fun a w1 => Q w1 ∧ K a w1) := ⟨hq _ (Chg.alloc _ _ _), h⟩
end Go.Pl
namespace Go.Proofs.YtlnhecbgjjglfaaGreat
open Go Go.Sh Go.Pl Go.RowKit Go.Lang Go.Vm
theorem Sp.rel {O : Nat → Nat} {w : World} (j : Nat) : Sp O w (relab O w.heap.size j) w := ⟨fun _ hk => relab_lt hk, Chg.refl _ _⟩
theorem MmX.r0 {w : World} {b : Nat} {E : En} {m : Mc} {q : Sl} {O : Nat → Nat} (h : MmX w b E m q O) : MmX w b E m q (relab O w.heap.size 0) := h.rel fun k hk => relab_lt hk
/-- A temporary block stays as it is. -/
theorem Sp.tmp {O O' : Nat → Nat} {w w' : World} {k : Nat} {cur : Array Value} {t : TypeId} (h : Sp O w O' w') (hb : Blk w k cur t) (hk : O k = 0) : Blk w' k cur t ∧ O' k = 0 := ⟨hb.chg h.2 (fun hn => hn hk), by rw [h.1 k hb.lt]; exact hk⟩
set_option maxRecDepth 4000 in
theorem write_ok {w : World} {b : Nat} {E : En} {m : Mc} {q : Sl} {O : Nat → Nat} {i : Int} {p : Int × Int} {K : Int → World → Prop} (h : MmX w b E m q O) (hK : ∀ w', MmX w' b E (putAt m i p).1 q O → Sp O w O w' → K (putAt m i p).2 w') : c_vm_Machine_write (some ⟨b, 0, none⟩) i p.1 p.2 w K := by
  refine sim_vm_Machine_write ?_
  unfold sh_vm_Machine_write
  simp only [nnP_some]
  refine newB fun k1 w1 hc1 hb1 hk1 hs1 => ?_
  have hl : q.sp.l = m.pu.length := by have := h.pu.len; rw [flat_length] at this; omega
  have h1 := h.ch0 hc1
  unfold putAt at hK
  refine iteB_dec (fun h0 => by rw [if_pos (.inl h0)] at hK; exact hK w1 h1 (Sp.c0 hc1)) fun h0 => ?_
  refine ldS_b (s := q.sp) h1.blk rfl ?_
  refine iteB_dec (fun h2 => by rw [if_pos (.inr (by omega))] at hK; exact hK w1 h1 (Sp.c0 hc1)) fun h2 => ?_
  rw [if_neg (by omega)] at hK
  have d1 : Ch [] w1 w1.drew := Ch.drew _
  have h3 := h1.ch0 d1
  have hb3 := hb1.ch0 d1
  refine ldS_b (s := q.sp) h3.blk rfl (ldI_b (o := 0) hb3 rfl (ldI_b hb3 rfl ?_))
  refine h3.pu.st2' (x := i.toNat) (by omega) (by omega) fun w' ho hc hz => ?_
  rw [flat_set] at ho
  obtain ⟨a1, a2⟩ := h3.pua ho hc
  exact hK w' a1 (Sp.af (hc1.tr d1) a2)
set_option maxRecDepth 4000 in
theorem fail_ok {w : World} {b : Nat} {E : En} {m : Mc} {q : Sl} {O : Nat → Nat} {e u : Int} {K : World → Prop} (h : MmX w b E m q O) (hd : 0 ≤ E.d ∧ E.d ≤ 16) (hcc : 0 ≤ E.c ∧ E.c ≤ 16) (hK : ∀ q' O' w', MmX w' b E (fault E m e u) q' O' → Sp O w O' w' → K w') : c_vm_Machine_fail (some ⟨b, 0, none⟩) e u w K := by
  refine sim_vm_Machine_fail ?_
  unfold sh_vm_Machine_fail
  simp only [nnP_some]
  refine MmX.put (m' := { m with dn := true }) h (by decide) rfl rfl rfl rfl rfl fun w1 h1 p1 => ?_
  refine MmX.put (m' := { m with dn := true, cd := e }) h1 (by decide) rfl rfl rfl rfl rfl fun w2 h2 p2 => ?_
  refine MmX.put (m' := { m with dn := true, cd := e, us := u }) h2 (by decide) rfl rfl rfl rfl rfl fun w3 h3 p3 => ?_
  refine MmX.stk (s' := ⟨none, 0, 0⟩) (st' := []) ⟨h3, Chg.refl _ _, h3.os, fun k hk => by cases hk⟩ (Own.nil _ _ _) fun O4 w4 h4 p4 => ?_
  refine MmX.ouk (s' := ⟨none, 0, 0⟩) (out' := []) ⟨h4, Chg.refl _ _, h4.oo, fun k hk => by cases hk⟩ (Own.nil _ _ _) fun O5 w5 h5 p5 => ?_
  refine ldI_b (n := E.d) h5.blk rfl ?_
  rw [show E.d = ((E.d.toNat : Nat) : Int) by omega]
  refine mkP_intro TI6 (by omega) (by omega) fun w6 (hc6 : Ch [] w5 w6) hb6 hs6 => ?_
  rw [madeI] at hb6
  have ho6 := Own.new hb6 (by simp [maxLen]; omega)
  simp only [List.size_toArray, Is_length, List.length_replicate, List.toList_toArray] at ho6
  refine MmX.lok (s' := ⟨some ⟨w5.heap.size, 0, none⟩, E.d.toNat, E.d.toNat⟩) (lo' := zs E.d) ⟨h5, Chg.mono hc6 fun _ _ h => h.elim, h5.ol, fun k hk => by cases hk; exact .inr (Nat.le_refl _)⟩ ho6 fun O7 w7 h7 p7 => ?_
  refine ldI_b (n := E.c) h7.blk rfl ?_
  rw [show E.c = ((E.c.toNat : Nat) : Int) by omega]
  refine mkP_intro TPu (by omega) (by omega) fun w8 (hc8 : Ch [] w7 w8) hb8 hs8 => ?_
  have ho8 : Own w8 139 2 ⟨some ⟨w7.heap.size, 0, none⟩, E.c.toNat, E.c.toNat⟩ (flat (zp E.c)) := by
    refine ⟨by rw [flat_length]; simp [zp], .inr ⟨_, E.c.toNat, _, rfl, Nat.zero_le _, hb8, Nat.le_refl _, by unfold maxLen; omega, by simp [madeCells], ?_⟩⟩
    rw [made2]
    unfold zp
    rw [flat_rep, List.take_of_length_le (by simp)]
  refine MmX.puk (s' := ⟨some ⟨w7.heap.size, 0, none⟩, E.c.toNat, E.c.toNat⟩) (pu' := zp E.c) ⟨h7, Chg.mono hc8 fun _ _ h => h.elim, h7.op, fun k hk => by cases hk; exact .inr (Nat.le_refl _)⟩ ho8 fun O9 w9 h9 p9 => ?_
  exact hK _ O9 w9 h9 (((((p1.tr p2).tr p3).tr p4).tr p5).tr (p7.tr p9))
/-- What is left of an instruction: its fault, and the state if there is none. -/
def Res (E : En) (m : Mc) (x : Ins) (m' : Mc) (r : Int) : Prop := r = (ex E m x).2 ∧ m'.pc = m.pc ∧ m'.n = m.n ∧ m'.dn = m.dn ∧ (r = 0 → m' = (ex E m x).1)
theorem Res.of {E : En} {m m' : Mc} {x : Ins} {r : Int} (h : ex E m x = (m', r)) (h1 : m'.pc = m.pc) (h2 : m'.n = m.n) (h3 : m'.dn = m.dn) : Res E m x m' r := ⟨by rw [h], h1, h2, h3, fun _ => by rw [h]⟩
theorem Res.put {E : En} {m m1 : Mc} {x : Ins} {i : Int} {p : Int × Int} (h : ex E m x = putAt m1 i p) (h1 : m1.pc = m.pc) (h2 : m1.n = m.n) (h3 : m1.dn = m.dn) : Res E m x (putAt m1 i p).1 (putAt m1 i p).2 := by
  have : (putAt m1 i p).1.pc = m1.pc ∧ (putAt m1 i p).1.n = m1.n ∧ (putAt m1 i p).1.dn = m1.dn := by
    unfold putAt
    split <;> exact ⟨rfl, rfl, rfl⟩
  exact ⟨by rw [h], by rw [this.1, h1], by rw [this.2.1, h2], by rw [this.2.2, h3], fun _ => by rw [h]⟩
set_option maxRecDepth 4000 in
theorem tell_ok {w : World} {b : Nat} {E : En} {m : Mc} {q : Sl} {O : Nat → Nat} {op A : Int} {K : Int → World → Prop} (h : MmX w b E m q O) (ho : op = 32 ∨ op = 33 ∨ op = 34 ∨ op = 35) (hp : (mv op).1 ≤ (m.st.length : Int)) (hl : m.st.length ≤ 1000) (hol : m.out.length ≤ 16)
    (hK : ∀ m' r q' O' w', MmX w' b E m' q' O' → Sp O w O' w' → Res E m (op, A) m' r → K r w') : c_vm_Machine_tell (some ⟨b, 0, none⟩) op A w K := by
  refine sim_vm_Machine_tell ?_
  unfold sh_vm_Machine_tell
  simp only [nnP_some]
  refine newB fun k1 w1 hc1 hb1 hk1 hs1 => ?_
  have s0 := Sp.rel (O := O) (w := w) 0
  have h0 := h.r0
  have z1 : relab O w.heap.size 0 k1 = 0 := relab_ge (by omega)
  generalize relab O w.heap.size 0 = O0 at *
  replace h0 := h0.ch0 hc1
  replace s0 := s0.tr (Sp.c0 hc1)
  refine ldI_b (o := 0) hb1 rfl ?_
  refine iteB_eq (fun e => ?_) (fun n32 => ?_)
  · subst e
    obtain ⟨v, r, hs⟩ := top1 (m := m) (by simp [mv] at hp; omega)
    have d1 : Ch [] w1 w1.drew := Ch.drew _
    refine ldI_b (hb1.ch0 d1) rfl ?_
    refine pop_ok (h0.ch0 d1) hs (by rw [hs] at hl; simp at hl; omega) fun s' O2 w2 h2 p2 => ?_
    have hb2 := (p2.tmp (hb1.ch0 d1) z1).1
    refine ⟨by rw [add_mk, Nat.zero_add, hb2.cell]; rfl, ?_⟩
    refine write_ok (p := (1, v)) h2 fun w3 h3 p3 => ?_
    exact hK _ _ _ O2 w3 h3 (s0.tr ((Sp.c0 d1).tr (p2.tr p3))) (Res.put (by unfold ex; simp [hs]) rfl rfl rfl)
  refine iteB_eq (fun e => ?_) (fun n33 => ?_)
  · subst e
    refine ldI_b hb1 rfl ?_
    refine write_ok (p := (2, 0)) h0 fun w3 h3 p3 => ?_
    exact hK _ _ _ O0 w3 h3 (s0.tr p3) (Res.put (by unfold ex; simp) rfl rfl rfl)
  refine iteB_eq (fun e => ?_) (fun n34 => ?_)
  · subst e
    obtain ⟨y, x, r, hs⟩ := top2 (m := m) (by simp [mv] at hp; omega)
    refine pop_ok h0 hs (by rw [hs] at hl; simp at hl ⊢; omega) fun s' O2 w2 h2 p2 => ?_
    refine pop_ok h2 rfl (by rw [hs] at hl; simp at hl; omega) fun s'' O3 w3 h3 p3 => ?_
    refine write_ok (p := (1, y)) h3 fun w4 h4 p4 => ?_
    exact hK _ _ _ O3 w4 h4 (s0.tr (p2.tr (p3.tr p4))) (Res.put (by unfold ex; simp [hs]) rfl rfl rfl)
  have e : op = 35 := by omega
  subst e
  have hlo : q.so.l = m.out.length := by have := h.ou.rd.len; simpa using this
  refine ldS_b (s := q.so) h0.blk rfl ?_
  refine iteB_dec (fun h16 => ?_) (fun h16 => ?_)
  · exact hK m 204 q O0 w1 h0 s0 (Res.of (by unfold ex; simp; omega) rfl rfl rfl)
  obtain ⟨v, r, hs⟩ := top1 (m := m) (by simp [mv] at hp; omega)
  have d1 : Ch [] w1 w1.drew := Ch.drew _
  refine ldS_b (s := q.so) (h0.ch0 d1).blk rfl ?_
  refine pop_ok (h0.ch0 d1) hs (by rw [hs] at hl; simp at hl; omega) fun s' O2 w2 h2 p2 => ?_
  refine ⟨by rw [add_mk, Nat.zero_add, h2.blk.cell]; rfl, ?_⟩
  have hlo2 : ({ q with ss := s' } : Sl).so.l = m.out.length := hlo
  refine newP_and (fun w' hc => by rw [add_mk, Nat.zero_add, (h2.ch0 hc).blk.cell]; rfl) ?_
  refine apB TI6 (cells := #[.int .i64 v]) rfl (by simp; rfl) h2.ou (by omega) (by omega) fun s'' w4 ho4 hl4 hg4 => ?_
  refine MmX.ouk (out' := m.out ++ [v]) ⟨h2, hg4.chg, h2.oo, hg4.blk⟩ (by
      have e : Is .i64 (m.out ++ [v]) = Is .i64 m.out ++ [.int .i64 v] := by simp [Is]
      rw [e]; exact ho4) fun O5 w5 h5 p5 => ?_
  exact hK _ 0 _ O5 w5 h5 (s0.tr ((Sp.c0 d1).tr (p2.tr p5))) (Res.of (by unfold ex; simp [hs]; omega) rfl rfl rfl)
theorem truth_ok {t : Bool} {w : World} {K : Int → World → Prop} (hK : K (tr t) w) : c_vm_truth t w K := by
  refine sim_vm_truth ?_
  unfold sh_vm_truth
  cases t <;> exact hK
theorem u64_nonneg (y : Int) : 0 ≤ IntKind.u64.wrap y := by
  simp only [IntKind.wrap, IntKind.signed, IntKind.bits]
  simp
  omega
/-- A loaded value of a row is there. -/
theorem isAt {xs : List Int} {i : Int} (h : 0 ≤ i ∧ i < (xs.length : Int)) : xs[i.toNat]? = some (xs[i.toNat]?.getD 0) := by
  rw [List.getElem?_eq_getElem (by omega)]; rfl
set_option maxHeartbeats 1000000 in
set_option maxRecDepth 4000 in
theorem two_ok {w : World} {v : Value} {O : Nat → Nat} {op : Nat} {x y : Int} {K : Int → Int → World → Prop} (h2 : isTwo op) (h : Clo w O v (gOf op) (tOf op) (hOf op)) (hK : K (two op x y).1 (two op x y).2 w) : cvP Tryz.prog v [.int .i64 x, .int .i64 y] w fun v71 w70 => ∃ (r68 : Int), ∃ (r69 : Int), v71 = .tuple #[.int .i64 r68, .int .i64 r69] ∧ K r68 r69 w70 := by
  obtain ⟨k, rfl, hb, hk⟩ := h.e
  have h64 : IntKind.bits .i64 = 64 := rfl
  have hops : op = 10 ∨ op = 11 ∨ op = 12 ∨ op = 13 ∨ op = 14 ∨ op = 15 ∨ op = 16 ∨ op = 17 ∨ op = 18 ∨ op = 19 ∨ op = 22 ∨ op = 23 ∨ op = 24 ∨ op = 25 ∨ op = 26 ∨ op = 27 ∨ op = 28 ∨ op = 29 := by unfold isTwo at h2; omega
  rcases hops with rfl | rfl | rfl | rfl | rfl | rfl | rfl | rfl | rfl | rfl | rfl | rfl | rfl | rfl | rfl | rfl | rfl | rfl
  · refine cvP_of (by decide +kernel) (show c_vm_plain_1 x y ⟨k, 0, none⟩ w K from ?_)
    refine sim_vm_plain_1 ?_
    unfold sh_vm_plain_1
    refine ldV_b (o := 0) hb rfl (cvP_of (by decide +kernel) (show c_vm_pairs_1 x y w _ from sim_vm_pairs_1 ?_))
    exact hK
  · refine cvP_of (by decide +kernel) (show c_vm_plain_1 x y ⟨k, 0, none⟩ w K from ?_)
    refine sim_vm_plain_1 ?_
    unfold sh_vm_plain_1
    refine ldV_b (o := 0) hb rfl (cvP_of (by decide +kernel) (show c_vm_pairs_2 x y w _ from sim_vm_pairs_2 ?_))
    exact hK
  · refine cvP_of (by decide +kernel) (show c_vm_plain_1 x y ⟨k, 0, none⟩ w K from ?_)
    refine sim_vm_plain_1 ?_
    unfold sh_vm_plain_1
    refine ldV_b (o := 0) hb rfl (cvP_of (by decide +kernel) (show c_vm_pairs_3 x y w _ from sim_vm_pairs_3 ?_))
    exact hK
  · refine cvP_of (by decide +kernel) (show c_vm_divides_1 x y ⟨k, 0, none⟩ w K from ?_)
    refine sim_vm_divides_1 ?_
    unfold sh_vm_divides_1
    refine iteB_eq (fun h0 => ?_) (fun h0 => ?_)
    · simpa [two, h0] using hK
    refine ldV_b (o := 0) hb rfl (cvP_of (by decide +kernel) (show c_vm_pairs_4 x y w _ from sim_vm_pairs_4 ⟨h0, ?_⟩))
    simpa [two, h0] using hK
  · refine cvP_of (by decide +kernel) (show c_vm_divides_1 x y ⟨k, 0, none⟩ w K from ?_)
    refine sim_vm_divides_1 ?_
    unfold sh_vm_divides_1
    refine iteB_eq (fun h0 => ?_) (fun h0 => ?_)
    · simpa [two, h0] using hK
    refine ldV_b (o := 0) hb rfl (cvP_of (by decide +kernel) (show c_vm_pairs_5 x y w _ from sim_vm_pairs_5 ⟨h0, ?_⟩))
    simpa [two, h0] using hK
  · refine cvP_of (by decide +kernel) (show c_vm_plain_1 x y ⟨k, 0, none⟩ w K from ?_)
    refine sim_vm_plain_1 ?_
    unfold sh_vm_plain_1
    refine ldV_b (o := 0) hb rfl (cvP_of (by decide +kernel) (show c_vm_pairs_6 x y w _ from sim_vm_pairs_6 ?_))
    exact hK
  · refine cvP_of (by decide +kernel) (show c_vm_plain_1 x y ⟨k, 0, none⟩ w K from ?_)
    refine sim_vm_plain_1 ?_
    unfold sh_vm_plain_1
    refine ldV_b (o := 0) hb rfl (cvP_of (by decide +kernel) (show c_vm_pairs_7 x y w _ from sim_vm_pairs_7 ?_))
    exact hK
  · refine cvP_of (by decide +kernel) (show c_vm_plain_1 x y ⟨k, 0, none⟩ w K from ?_)
    refine sim_vm_plain_1 ?_
    unfold sh_vm_plain_1
    refine ldV_b (o := 0) hb rfl (cvP_of (by decide +kernel) (show c_vm_pairs_8 x y w _ from sim_vm_pairs_8 ?_))
    exact hK
  · refine cvP_of (by decide +kernel) (show c_vm_shifts_1 x y ⟨k, 0, none⟩ w K from ?_)
    refine sim_vm_shifts_1 ?_
    unfold sh_vm_shifts_1
    refine iteB_dec (fun h0 => ?_) (fun h0 => ?_)
    · simpa [two, h0] using hK
    refine ldV_b (o := 0) hb rfl (cvP_of (by decide +kernel) (show c_vm_pairs_9 x y w _ from sim_vm_pairs_9 ⟨u64_nonneg y, ?_⟩))
    simpa [two, h0] using hK
  · refine cvP_of (by decide +kernel) (show c_vm_shifts_1 x y ⟨k, 0, none⟩ w K from ?_)
    refine sim_vm_shifts_1 ?_
    unfold sh_vm_shifts_1
    refine iteB_dec (fun h0 => ?_) (fun h0 => ?_)
    · simpa [two, h0] using hK
    refine ldV_b (o := 0) hb rfl (cvP_of (by decide +kernel) (show c_vm_pairs_10 x y w _ from sim_vm_pairs_10 ⟨u64_nonneg y, ?_⟩))
    simpa [two, h0] using hK
  · refine cvP_of (by decide +kernel) (show c_vm_asks_1 x y ⟨k, 0, none⟩ w K from ?_)
    refine sim_vm_asks_1 ?_
    unfold sh_vm_asks_1
    refine ldV_b (o := 0) hb rfl (cvP_of (by decide +kernel) (show c_vm_pairs_11 x y w _ from sim_vm_pairs_11 (truth_ok ?_)))
    exact hK
  · refine cvP_of (by decide +kernel) (show c_vm_asks_1 x y ⟨k, 0, none⟩ w K from ?_)
    refine sim_vm_asks_1 ?_
    unfold sh_vm_asks_1
    refine ldV_b (o := 0) hb rfl (cvP_of (by decide +kernel) (show c_vm_pairs_12 x y w _ from sim_vm_pairs_12 (truth_ok ?_)))
    exact hK
  · refine cvP_of (by decide +kernel) (show c_vm_asks_1 x y ⟨k, 0, none⟩ w K from ?_)
    refine sim_vm_asks_1 ?_
    unfold sh_vm_asks_1
    refine ldV_b (o := 0) hb rfl (cvP_of (by decide +kernel) (show c_vm_pairs_13 x y w _ from sim_vm_pairs_13 (truth_ok ?_)))
    exact hK
  · refine cvP_of (by decide +kernel) (show c_vm_asks_1 x y ⟨k, 0, none⟩ w K from ?_)
    refine sim_vm_asks_1 ?_
    unfold sh_vm_asks_1
    refine ldV_b (o := 0) hb rfl (cvP_of (by decide +kernel) (show c_vm_pairs_14 x y w _ from sim_vm_pairs_14 (truth_ok ?_)))
    exact hK
  · refine cvP_of (by decide +kernel) (show c_vm_asks_1 x y ⟨k, 0, none⟩ w K from ?_)
    refine sim_vm_asks_1 ?_
    unfold sh_vm_asks_1
    refine ldV_b (o := 0) hb rfl (cvP_of (by decide +kernel) (show c_vm_pairs_15 x y w _ from sim_vm_pairs_15 (truth_ok ?_)))
    exact hK
  · refine cvP_of (by decide +kernel) (show c_vm_asks_1 x y ⟨k, 0, none⟩ w K from ?_)
    refine sim_vm_asks_1 ?_
    unfold sh_vm_asks_1
    refine ldV_b (o := 0) hb rfl (cvP_of (by decide +kernel) (show c_vm_pairs_16 x y w _ from sim_vm_pairs_16 (truth_ok ?_)))
    exact hK
  · refine cvP_of (by decide +kernel) (show c_vm_plain_1 x y ⟨k, 0, none⟩ w K from ?_)
    refine sim_vm_plain_1 ?_
    unfold sh_vm_plain_1
    refine ldV_b (o := 0) hb rfl (cvP_of (by decide +kernel) (show c_vm_pairs_17 x y w _ from sim_vm_pairs_17 ?_))
    have e : (if y < x then y else x) = min x y := by rw [Int.min_def]; split <;> split <;> omega
    unfold sh_vm_pairs_17
    rw [e]; exact hK
  · refine cvP_of (by decide +kernel) (show c_vm_plain_1 x y ⟨k, 0, none⟩ w K from ?_)
    refine sim_vm_plain_1 ?_
    unfold sh_vm_plain_1
    refine ldV_b (o := 0) hb rfl (cvP_of (by decide +kernel) (show c_vm_pairs_18 x y w _ from sim_vm_pairs_18 ?_))
    have e : (if y > x then y else x) = max x y := by rw [Int.max_def]; split <;> split <;> omega
    unfold sh_vm_pairs_18
    rw [e]; exact hK
set_option maxHeartbeats 1000000 in
set_option maxRecDepth 4000 in
theorem reckon_ok {w : World} {b : Nat} {E : En} {m : Mc} {q : Sl} {O : Nat → Nat} {op A : Int} {K : Int → World → Prop} (h : MmX w b E m q O) (h0 : 0 ≤ op ∧ op < 37) (hn : op ≠ 0 ∧ op ≠ 30 ∧ op ≠ 31 ∧ op ≠ 36 ∧ op ≠ 32 ∧ op ≠ 33 ∧ op ≠ 34 ∧ op ≠ 35) (hp : (mv op).1 ≤ (m.st.length : Int)) (hl : m.st.length ≤ 32)
    (hA : insE E.a E.b E.c E.d E.is.length (op, A) m.pc = 0) (hla : (E.args.length : Int) = E.a) (hlr : (E.rs.length : Int) = E.b) (hll : (m.lo.length : Int) = E.d)
    (hK : ∀ m' r q' O' w', MmX w' b E m' q' O' → Sp O w O' w' → Res E m (op, A) m' r → K r w') : c_vm_Machine_reckon (some ⟨b, 0, none⟩) op A w K := by
  refine sim_vm_Machine_reckon ?_
  unfold sh_vm_Machine_reckon
  simp only [nnP_some]
  refine newB fun k1 w1 hc1 hb1 hk1 hs1 => ?_
  have s0 := Sp.rel (O := O) (w := w) 0
  have h0' := h.r0
  have z1 : relab O w.heap.size 0 k1 = 0 := relab_ge (by omega)
  generalize relab O w.heap.size 0 = O0 at *
  replace h0' := h0'.ch0 hc1
  replace s0 := s0.tr (Sp.c0 hc1)
  have d1 : Ch [] w1 w1.drew := Ch.drew _
  have hd := h0'.ch0 d1
  have hbd := hb1.ch0 d1
  have sd := s0.tr (Sp.c0 d1)
  refine ldI_b (o := 0) hb1 rfl ?_
  refine iteB_eq (fun e => ?_) (fun n2 => ?_)
  · subst e
    obtain ⟨v, r, hs⟩ := top1 (m := m) (by simp [mv] at hp; omega)
    refine pop_ok h0' hs (by rw [hs] at hl; simp at hl; omega) fun s' O2 w2 h2 p2 => ?_
    exact hK _ 0 _ O2 w2 h2 (s0.tr p2) (Res.of (by unfold ex; simp [hs]) rfl rfl rfl)
  refine iteB_eq (fun e => ?_) (fun n5 => ?_)
  · subst e
    obtain ⟨v, r, hs⟩ := top1 (m := m) (by simp [mv] at hp; omega)
    have hAr : 0 ≤ A ∧ A < E.d := by
      simp only [insE, argE, mostA] at hA
      simp at hA
      omega
    refine ldS_b (s := q.sl) hd.blk rfl (ldI_b hbd rfl ?_)
    refine pop_ok hd hs (by rw [hs] at hl; simp at hl; omega) fun s' O2 w2 h2 p2 => ?_
    have hb2 := (p2.tmp hbd z1).1
    refine ⟨by rw [add_mk, Nat.zero_add, hb2.cell]; rfl, by rw [add_mk, Nat.zero_add, h2.blk.cell]; rfl, ?_⟩
    have hll' : q.sl.l = m.lo.length := by have := h.lo.rd.len; simpa using this
    refine Own.st1' (x := A.toNat) h2.lo (show A.toNat < q.sl.l by omega) (by omega) fun w3 ho3 hc3 hz3 => ?_
    have e3 : (Is .i64 m.lo).set A.toNat (.int .i64 v) = Is .i64 (m.lo.set A.toNat v) := by simp [Is]
    have ho3 : Own w3 2 1 q.sl (Is .i64 (m.lo.set A.toNat v)) := by rw [← e3]; exact ho3
    obtain ⟨h3, p3⟩ := h2.loa (lo' := m.lo.set A.toNat v) ho3 hc3
    exact hK _ 0 _ O2 w3 h3 (sd.tr (p2.tr p3)) (Res.of (by unfold ex; simp [hs]) rfl rfl rfl)
  refine iteB_eq (fun e => ?_) (fun n1 => ?_)
  · subst e
    refine ldI_b hb1 rfl ?_
    refine push_ok h0' (by omega) fun s' O2 w2 h2 p2 => ?_
    exact hK _ 0 _ O2 w2 h2 (s0.tr p2) (Res.of (by unfold ex; simp) rfl rfl rfl)
  refine iteB_eq (fun e => ?_) (fun n3 => ?_)
  · subst e
    obtain ⟨v, r, hs⟩ := top1 (m := m) (by simp [mv] at hp; omega)
    refine ldS_b (s := q.ss) hd.blk rfl (ldS_b (s := q.ss) hd.blk rfl ?_)
    have hst := hd.st
    rw [hs, List.reverse_cons] at hst
    have hlen : q.ss.l = r.length + 1 := by have := hst.rd.len; simpa using this
    have hrl : r.length ≤ 32 := by rw [hs] at hl; simp at hl; omega
    have hw : IntKind.i64.wrap ((q.ss.l : Int) - 1) = (r.length : Int) := by rw [wrap_i64 (by omega)]; omega
    rw [hw]
    refine hst.rd.get (k := .i64) (ds := r.reverse ++ [v]) (v := v) (by omega) (by rw [Int.toNat_natCast]; simp) ?_
    refine push_ok hd (by omega) fun s' O2 w2 h2 p2 => ?_
    exact hK _ 0 _ O2 w2 h2 (sd.tr p2) (Res.of (by unfold ex; simp [hs]) rfl rfl rfl)
  refine iteB_eq (fun e => ?_) (fun n4 => ?_)
  · subst e
    have hAr : 0 ≤ A ∧ A < E.d := by
      simp only [insE, argE, mostA] at hA
      simp at hA
      omega
    refine ldS_b (s := q.sl) hd.blk rfl (ldI_b hbd rfl ?_)
    refine hd.lo.rd.get hAr.1 (isAt (by omega)) ?_
    refine push_ok hd (by omega) fun s' O2 w2 h2 p2 => ?_
    exact hK _ 0 _ O2 w2 h2 (sd.tr p2) (Res.of (by unfold ex; simp) rfl rfl rfl)
  refine iteB_eq (fun e => ?_) (fun n6 => ?_)
  · subst e
    have hAr : 0 ≤ A ∧ A < E.a := by
      simp only [insE, argE, mostA] at hA
      simp at hA
      omega
    refine ldS_b (s := q.sa) hd.blk rfl (ldI_b hbd rfl ?_)
    refine hd.ar.rd.get hAr.1 (isAt (by omega)) ?_
    refine push_ok hd (by omega) fun s' O2 w2 h2 p2 => ?_
    exact hK _ 0 _ O2 w2 h2 (sd.tr p2) (Res.of (by unfold ex; simp) rfl rfl rfl)
  refine iteB_eq (fun e => ?_) (fun n7 => ?_)
  · subst e
    have hAr : 0 ≤ A ∧ A < E.b := by
      simp only [insE, argE, mostA] at hA
      simp at hA
      omega
    refine ldI_b hb1 rfl ?_
    refine vread_ok h0' ?_
    rw [if_neg (by omega)]
    refine push_ok h0' (by omega) fun s' O2 w2 h2 p2 => ?_
    exact hK _ 0 _ O2 w2 h2 (s0.tr p2) (Res.of (by unfold ex; simp) rfl rfl rfl)
  refine iteB_eq (fun e => ?_) (fun n8 => ?_)
  · subst e
    have hAr : 0 ≤ A ∧ A < E.b := by
      simp only [insE, argE, mostA] at hA
      simp at hA
      omega
    refine ldS_b (s := q.sr) hd.blk rfl (ldI_b hbd rfl ?_)
    have hc : E.rs[A.toNat]? = some E.rs[A.toNat] := List.getElem?_eq_getElem (by omega)
    refine cread hd hAr.1 hc fun ad c1 c2 => ldB_of c1 (truth_ok ?_)
    refine push_ok hd (by omega) fun s' O2 w2 h2 p2 => ?_
    exact hK _ 0 _ O2 w2 h2 (sd.tr p2) (Res.of (by unfold ex; simp [hc]) rfl rfl rfl)
  refine iteB_eq (fun e => ?_) (fun n9 => ?_)
  · subst e
    obtain ⟨v, r, hs⟩ := top1 (m := m) (by simp [mv] at hp; omega)
    have hrl : r.length ≤ 32 := by rw [hs] at hl; simp at hl; omega
    refine pop_ok h0' hs (by omega) fun s' O2 w2 h2 p2 => ?_
    refine vread_ok h2 ?_
    split
    · rename_i hb
      refine push_ok h2 (by show r.length ≤ _; omega) fun s' O3 w3 h3 p3 => ?_
      refine hK _ 203 _ O3 w3 h3 (s0.tr (p2.tr p3)) ⟨by unfold ex; simp [hs, hb], rfl, rfl, rfl, fun h => by cases h⟩
    · rename_i hb
      refine push_ok h2 (by show r.length ≤ _; omega) fun s' O3 w3 h3 p3 => ?_
      exact hK _ 0 _ O3 w3 h3 (s0.tr (p2.tr p3)) (Res.of (by unfold ex; simp [hs, hb]) rfl rfl rfl)
  refine iteB_eq (fun e => ?_) (fun n20 => ?_)
  · subst e
    obtain ⟨v, r, hs⟩ := top1 (m := m) (by simp [mv] at hp; omega)
    have hrl : r.length ≤ 32 := by rw [hs] at hl; simp at hl; omega
    refine pop_ok h0' hs (by omega) fun s' O2 w2 h2 p2 => ?_
    refine push_ok h2 (by show r.length ≤ _; omega) fun s' O3 w3 h3 p3 => ?_
    exact hK _ 0 _ O3 w3 h3 (s0.tr (p2.tr p3)) (Res.of (by unfold ex; simp [hs, Vm.wr]) rfl rfl rfl)
  refine iteB_eq (fun e => ?_) (fun n21 => ?_)
  · subst e
    obtain ⟨v, r, hs⟩ := top1 (m := m) (by simp [mv] at hp; omega)
    have hrl : r.length ≤ 32 := by rw [hs] at hl; simp at hl; omega
    refine pop_ok h0' hs (by omega) fun s' O2 w2 h2 p2 => truth_ok ?_
    refine push_ok h2 (by show r.length ≤ _; omega) fun s' O3 w3 h3 p3 => ?_
    exact hK _ 0 _ O3 w3 h3 (s0.tr (p2.tr p3)) (Res.of (by unfold ex; simp [hs]) rfl rfl rfl)
  have hm2 : mv op = (2, 1) := mv2 h0.1 h0.2 hn.1 n1 n2 n3 n4 n5 n6 n7 n8 n9 n20 n21 hn.2.1 hn.2.2.1 hn.2.2.2.2.1 hn.2.2.2.2.2.1 hn.2.2.2.2.2.2.1 hn.2.2.2.2.2.2.2 hn.2.2.2.1
  obtain ⟨y, x, r, hs⟩ := top2 (m := m) (by rw [hm2] at hp; exact hp)
  have hrl : r.length ≤ 32 := by rw [hs] at hl; simp at hl; omega
  obtain ⟨o, rfl⟩ : ∃ o : Nat, op = (o : Int) := ⟨op.toNat, by omega⟩
  have h2o : isTwo o := by unfold isTwo; omega
  refine pop_ok h0' hs (by simp; omega) fun s' O2 w2 h2 p2 => ?_
  have hb2 := (p2.tmp hb1 z1)
  have d2 : Ch [] w2 w2.drew := Ch.drew _
  refine ldI_b (o := 0) (hb2.1.ch0 d2) rfl ?_
  refine ⟨by omega, by omega, ?_⟩
  rw [Int.toNat_natCast, Nat.mul_one, Deep.add_add]
  have hd2 := h2.ch0 d2
  refine ldV_b hd2.blk (mcells_two o (by omega)) ?_
  refine pop_ok hd2 rfl (by omega) fun s'' O3 w3 h3 p3 => ?_
  have hb3 := p3.tmp (hb2.1.ch0 d2) hb2.2
  refine ⟨by rw [add_mk, Nat.zero_add, h3.blk.cell]; exact mcells_two o (by omega), by have := hb3.1.cell 0; simpa using this, ?_⟩
  refine two_ok (K := fun r68 r69 w70 => c_vm_Machine_push (some ⟨b, 0, none⟩) r68 w70 fun w72 => K r69 w72) h2o (h3.fn o h2o) ?_
  refine push_ok h3 (by show r.length ≤ _; omega) fun s4 O4 w4 h4 p4 => ?_
  have hex : ex E m ((o : Int), A) = ({ m with st := (two o x y).1 :: r }, (two o x y).2) := by
    unfold ex
    simp only [if_neg n1, if_neg n2, if_neg n3, if_neg n4, if_neg n5, if_neg n6, if_neg n7, if_neg n8, if_neg n9, if_neg n20, if_neg n21, if_neg hn.2.2.2.2.1, if_neg hn.2.2.2.2.2.1, if_neg hn.2.2.2.2.2.2.1, if_neg hn.2.2.2.2.2.2.2]
    rw [hs]; rfl
  exact hK _ _ _ O4 w4 h4 (s0.tr (p2.tr ((Sp.c0 d2).tr (p3.tr p4)))) (Res.of hex rfl rfl rfl)
/-- The machine goes on at a place. -/
theorem go_ok {w : World} {b : Nat} {E : En} {m : Mc} {q : Sl} {O : Nat → Nat} {t : Nat} {i : Int} {K : World → Prop} (h : MmX w b E m q O) (hi : i = (t : Int)) (hK : ∀ w', MmX w' b E (goto' E m t) q O → Sp O w O w' → K w') :
    stP ((⟨b, 0, none⟩ : Addr).add 48) (.int .i64 i) w fun w26 => ldS ((⟨b, 0, none⟩ : Addr).add 4) w26 fun s28 => stP ((⟨b, 0, none⟩ : Addr).add 50) (.bool (i == (s28.l : Int))) w26 fun w30 => K w30 := by
  subst hi
  refine MmX.put (m' := { m with pc := t }) h (by decide) rfl rfl rfl rfl rfl fun w1 h1 p1 => ?_
  refine ldS_b (s := q.sc) h1.blk rfl ?_
  have hl : q.sc.l = E.is.length := by have := h.co.len; rw [flat_length] at this; omega
  have e : ((t : Int) == (q.sc.l : Int)) = (t == E.is.length) := by rw [hl, Bool.eq_iff_iff]; simp; omega
  rw [e]
  refine MmX.put (m' := goto' E m t) h1 (by decide) rfl rfl rfl rfl rfl fun w2 h2 p2 => ?_
  exact hK w2 h2 (p1.tr p2)
set_option maxHeartbeats 2000000 in
set_option maxRecDepth 8000 in
theorem step_ok {w : World} {b : Nat} {E : En} {m : Mc} {q : Sl} {O : Nat → Nat} {K : Bool → World → Prop} (h : MmX w b E m q O) (hS : Sound E) (hI : Iv E m)
    (hK : (m.dn = true → K false w) ∧ (m.dn = false → ∀ q' O' w', MmX w' b E (Vm.step E m) q' O' → Sp O w O' w' → K true w')) : c_vm_Machine_Step (some ⟨b, 0, none⟩) w K := by
  refine sim_vm_Machine_Step ?_
  unfold sh_vm_Machine_Step
  simp only [nnP_some]
  refine ldB_b (s := m.dn) h.blk rfl ?_
  refine iteB_intro (fun hd => hK.1 hd) (fun hd => ?_)
  replace hK := hK.2 hd
  obtain ⟨x, hx, h0, h37, hins, hp, h32, hw⟩ := hI.at hS hd
  obtain ⟨hlt, _, _, _, hn⟩ := hI.more hd
  have hr := hS.rng
  rw [step_at hx] at hK
  have d1 : Ch [] w w.drew := Ch.drew _
  have s0 := Sp.rel (O := O) (w := w) 0
  have z0 : ∀ k, w.heap.size ≤ k → relab O w.heap.size 0 k = 0 := fun k hk => relab_ge hk
  have hh := h.r0
  generalize relab O w.heap.size 0 = O0 at *
  replace hh := hh.ch0 d1
  replace s0 := s0.tr (Sp.c0 d1)
  refine ldS_b (s := q.sc) hh.blk rfl (ldI_b (n := (m.pc : Int)) hh.blk rfl ?_)
  have hxx : x = E.is[m.pc] := by rw [List.getElem?_eq_getElem hlt] at hx; cases hx; rfl
  refine hh.co.rdC2.idx (i := m.pc) rfl hlt fun ad c1 c2 => ?_
  rw [← hxx] at c1 c2
  refine ldI_of c1 (ldI_of c2 ?_)
  refine newB fun k1 w1 hc1 hb1 hk1 hs1 => ?_
  have hh1 := hh.ch0 hc1
  have z1 : O0 k1 = 0 := z0 k1 (by have := d1.size; omega)
  replace s0 := s0.tr (Sp.c0 hc1)
  refine ⟨⟨cell_chg hc1 c1 fun h => h, cell_chg hc1 c2 fun h => h, trivial⟩, by rw [add_mk, Nat.zero_add, hh1.blk.cell]; rfl, by rw [add_mk, Nat.zero_add, hh1.blk.cell]; rfl, ?_⟩
  refine stB (o := 0) hb1 (by simp) fun w2 hc2 hb2 hs2 => stB hb2 (by simp) fun w3 hc3 hb3 hs3 => ?_
  have hc23 : Chg (fun k => k = k1) w1 w3 := by
    refine Chg.mono (hc2.tr hc3) fun i _ hi => ?_
    have hi : some i = some k1 := hi
    cases hi; rfl
  have hh3 := hh1.chg hc23 fun k _ hne hk => hne (by rw [hk]; exact z1)
  replace hb3 : Blk w3 k1 #[.int .i64 x.1, .int .i64 x.2] _ := hb3
  have s3 : Sp O0 w1 O0 w3 ∨ True := .inr trivial
  clear hb2 hb1
  -- the temporary block is new: nothing of the machine's has changed
  have sp3 : Sp O w O0 w3 := ⟨s0.1, s0.2.step hc23 fun i hi e => by have := d1.size; omega⟩
  clear s0 s3
  refine ldI_b (n := (m.n : Int)) hh3.blk rfl ?_
  rw [wrap_i64 (by omega), show ((m.n : Int) + 1) = ((m.n + 1 : Nat) : Int) by omega]
  refine MmX.put (m' := tick m) hh3 (by decide) rfl rfl rfl rfl rfl fun w4 h4 p4 => ?_
  obtain ⟨hb4, z4⟩ := p4.tmp hb3 z1
  replace p4 := sp3.tr p4
  refine ldI_b (n := (m.pc : Int)) h4.blk rfl (ldI_b (o := 0) hb4 rfl ?_)
  have hwr : IntKind.i64.wrap ((m.pc : Int) + 1) = ((m.pc + 1 : Nat) : Int) := by rw [wrap_i64 (by omega)]; omega
  rw [hwr]
  unfold act at hK
  have lst : m.st.length ≤ 32 := hI.st
  -- the end of an instruction that may fail
  have fin : ∀ (m' : Mc) (r : Int) (q' : Sl) (O' : Nat → Nat) (w5 : World), x.1 ≠ 0 → x.1 ≠ 30 → x.1 ≠ 31 → x.1 ≠ 36 → MmX w5 b E m' q' O' → Sp O0 w4 O' w5 → Res E (tick m) (x.1, x.2) m' r →
      iteB (r != 0) (c_vm_Machine_fail (some ⟨b, 0, none⟩) r 0 w5 fun w6 => K true w6) (stP ((⟨b, 0, none⟩ : Addr).add 48) (.int .i64 ((m.pc + 1 : Nat) : Int)) w5 fun w26 => ldS ((⟨b, 0, none⟩ : Addr).add 4) w26 fun s28 => stP ((⟨b, 0, none⟩ : Addr).add 50) (.bool (((m.pc + 1 : Nat) : Int) == (s28.l : Int))) w26 fun w30 => K true w30) := fun m' r q' O' w5 n0 n30 n31 n36 h5 p5 hR => by
    obtain ⟨e, r1, r2, r3, r4⟩ := hR
    rw [if_neg n0, if_neg n30, if_neg n31, if_neg n36] at hK
    refine iteB_ne (fun hne => ?_) (fun heq => ?_)
    · rw [if_pos (by rw [← e]; exact hne), ← e] at hK
      refine fail_ok h5 hr.2.2.2.1 hr.2.2.1 fun q6 O6 w6 h6 p6 => ?_
      have ef : fault E m' r 0 = fault E (tick m) r 0 := by unfold Vm.fault; rw [r1, r2]
      rw [ef] at h6
      exact hK q6 O6 w6 h6 (p4.tr (p5.tr p6))
    · rw [if_neg (by rw [← e]; exact fun h => h heq), ← r4 heq] at hK
      refine go_ok h5 rfl fun w6 h6 p6 => ?_
      exact hK q' O' w6 h6 (p4.tr (p5.tr p6))
  refine iteB_eq (fun e => ?_) (fun n0 => ?_)
  · rw [if_pos e] at hK
    refine MmX.put (m' := { tick m with dn := true }) h4 (by decide) rfl rfl rfl rfl rfl fun w5 h5 p5 => ?_
    exact hK q O0 w5 h5 (p4.tr p5)
  refine iteB_eq (fun e => ?_) (fun n30 => ?_)
  · rw [if_neg n0, if_pos e] at hK
    refine ldI_b hb4 rfl (iteB_neg rfl ?_)
    have hwy : wy x m.pc = [x.2] := by unfold wy; rw [if_neg (by omega), if_pos e]
    have hx2 := hw x.2 (by rw [hwy]; simp)
    refine go_ok (t := x.2.toNat) h4 (by omega) fun w6 h6 p6 => ?_
    exact hK q O0 w6 h6 (p4.tr p6)
  refine iteB_eq (fun e => ?_) (fun n31 => ?_)
  · rw [if_neg n0, if_neg n30, if_pos e] at hK
    have hwy : wy x m.pc = [x.2, (m.pc : Int) + 1] := by unfold wy; rw [if_neg (by omega), if_neg (by omega), if_pos e]
    have hx2 := hw x.2 (by rw [hwy]; simp)
    obtain ⟨v, r, hs⟩ := top1 (m := tick m) (by rw [e] at hp; simp [mv] at hp; exact hp)
    have hs' : m.st = v :: r := hs
    refine pop_ok h4 hs (by rw [hs'] at lst; simp at lst; omega) fun s' O5 w5 h5 p5 => ?_
    have hb5 := (p5.tmp hb4 z4).1
    have ehd : (tick m).st.headD 0 = v := by rw [hs]; rfl
    have etl : (tick m).st.tail = r := by rw [hs]; rfl
    rw [ehd, etl] at hK
    refine iteB_eq (fun e0 => ?_) (fun e0 => ?_)
    · rw [if_pos e0] at hK
      refine ldI_b hb5 rfl (iteB_neg rfl ?_)
      refine go_ok (t := x.2.toNat) h5 (by omega) fun w6 h6 p6 => ?_
      exact hK _ _ w6 h6 (p4.tr (p5.tr p6))
    · rw [if_neg e0] at hK
      refine iteB_neg rfl ?_
      refine go_ok (t := m.pc + 1) h5 rfl fun w6 h6 p6 => ?_
      exact hK _ _ w6 h6 (p4.tr (p5.tr p6))
  refine iteB_eq (fun e => ?_) (fun n36 => ?_)
  · rw [if_neg n0, if_neg n30, if_neg n31, if_pos e] at hK
    obtain ⟨v, r, hs⟩ := top1 (m := tick m) (by rw [e] at hp; simp [mv] at hp; exact hp)
    have hs' : m.st = v :: r := hs
    refine pop_ok h4 hs (by rw [hs'] at lst; simp at lst; omega) fun s' O5 w5 h5 p5 => ?_
    have ehd : (tick m).st.headD 0 = v := by rw [hs]; rfl
    rw [ehd] at hK
    refine iteB_pos rfl ?_
    refine fail_ok h5 hr.2.2.2.1 hr.2.2.1 fun q6 O6 w6 h6 p6 => ?_
    exact hK q6 O6 w6 h6 (p4.tr (p5.tr p6))
  have tell : ∀ {K' : Int → World → Prop}, (x.1 = 32 ∨ x.1 = 33 ∨ x.1 = 34 ∨ x.1 = 35) → (∀ m' r q' O' w', MmX w' b E m' q' O' → Sp O0 w4 O' w' → Res E (tick m) (x.1, x.2) m' r → K' r w') → c_vm_Machine_tell (some ⟨b, 0, none⟩) x.1 x.2 w4 K' := fun ho hk => tell_ok h4 ho hp (by show m.st.length ≤ _; omega) hI.out hk
  refine iteB_eq (fun e => ?_) (fun n32 => ?_)
  · exact ldI_b (o := 0) hb4 rfl (ldI_b hb4 rfl (tell (.inl e) fun m' r q' O' w5 h5 p5 hR => fin m' r q' O' w5 n0 n30 n31 n36 h5 p5 hR))
  refine iteB_eq (fun e => ?_) (fun n33 => ?_)
  · exact ldI_b (o := 0) hb4 rfl (ldI_b hb4 rfl (tell (.inr (.inl e)) fun m' r q' O' w5 h5 p5 hR => fin m' r q' O' w5 n0 n30 n31 n36 h5 p5 hR))
  refine iteB_eq (fun e => ?_) (fun n34 => ?_)
  · exact ldI_b (o := 0) hb4 rfl (ldI_b hb4 rfl (tell (.inr (.inr (.inl e))) fun m' r q' O' w5 h5 p5 hR => fin m' r q' O' w5 n0 n30 n31 n36 h5 p5 hR))
  refine iteB_eq (fun e => ?_) (fun n35 => ?_)
  · exact ldI_b (o := 0) hb4 rfl (ldI_b hb4 rfl (tell (.inr (.inr (.inr e))) fun m' r q' O' w5 h5 p5 hR => fin m' r q' O' w5 n0 n30 n31 n36 h5 p5 hR))
  exact ldI_b (o := 0) hb4 rfl (ldI_b hb4 rfl (reckon_ok h4 ⟨h0, h37⟩ ⟨n0, n30, n31, n36, n32, n33, n34, n35⟩ hp lst hins hS.args hS.reads hI.lo fun m' r q' O' w5 h5 p5 hR => fin m' r q' O' w5 n0 n30 n31 n36 h5 p5 hR))
end Go.Proofs.YtlnhecbgjjglfaaGreat
