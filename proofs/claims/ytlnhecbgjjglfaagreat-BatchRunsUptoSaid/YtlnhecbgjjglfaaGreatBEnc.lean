/- BEnc: a batch as bytes. -/
import Derived.Test.YtlnhecbgjjglfaaGreatKeyB
import Derived.Test.YtlnhecbgjjglfaaGreatWi
import Derived.Test.YtlnhecbgjjglfaaGreatBChk
set_option linter.unusedVariables false
set_option linter.unusedSimpArgs false
namespace Go.Pl
open Go Go.Sh Go.RowKit Go.Num
def setB (l : List Ky) : List UInt8 := encU l.length ++ l.flatMap kB
def argsB (l : List Int) : List UInt8 := l.flatMap fun a => encU (zig a)
def txB (x : Txm) : List UInt8 := encU x.proc.toNat ++ (encU x.args.length ++ (argsB x.args ++ (setB x.reads ++ setB x.writes)))
def batB (xs : List Txm) : List UInt8 := encU xs.length ++ xs.flatMap txB
def encT (xs : List Txm) : List UInt8 × Int := if (chkT formT xs).2 = 0 then (batB xs, 0) else ([], (chkT formT xs).2)
def I64s (l : List Int) : Prop := ∀ a ∈ l, -9223372036854775808 ≤ a ∧ a ≤ 9223372036854775807
structure Frm (x : Txm) : Prop where
  p0 : 0 ≤ x.proc
  p1 : x.proc < 64
  a : x.args.length ≤ 16
  r : x.reads.length ≤ 16
  w : x.writes.length ≤ 16
  rr : rises x.reads = true
  rw_ : rises x.writes = true
theorem frm_of {x : Txm} (h : formT x = 0) : Frm x := by
  unfold formT at h
  repeat' split at h <;> try omega
  rename_i h1 h2 h3 h4 h5
  exact ⟨by omega, by omega, by omega, by omega, by omega, h5.1, h5.2⟩
theorem of_frm {x : Txm} (h : Frm x) : formT x = 0 := by
  obtain ⟨h1, h2, h3, h4, h5, h6, h7⟩ := h
  unfold formT
  rw [if_neg (by omega), if_neg (by omega), if_neg (by omega), if_neg (by omega), if_pos ⟨h6, h7⟩]
theorem rises_ok_at {l : List Ky} (h : rises l = true) : ∀ k ∈ l, kOk k = true := by
  intro k hk
  obtain ⟨i, hi, rfl⟩ := List.getElem_of_mem hk
  have := (of_decide_eq_true h) i hi
  rw [← kAt_lt hi]; exact this.1
theorem firstT_zero {g : Txm → Int} : ∀ {xs : List Txm} {i : Nat}, (firstT g xs i).2 = 0 → ∀ x ∈ xs, g x = 0
  | [], _, _ => by simp
  | x :: r, i, h => by
    unfold firstT at h
    split at h
    · rename_i hx; exact absurd h hx
    · rename_i hx
      intro y hy
      rcases List.mem_cons.1 hy with rfl | hy
      · omega
      · exact firstT_zero h y hy
theorem firstT_all {g : Txm → Int} : ∀ {xs : List Txm} {i : Nat}, (∀ x ∈ xs, g x = 0) → firstT g xs i = (0, 0)
  | [], _, _ => rfl
  | x :: r, i, h => by
    unfold firstT
    rw [if_neg (by rw [h x (List.mem_cons_self ..)]; simp)]
    exact firstT_all fun y hy => h y (List.mem_cons_of_mem _ hy)
theorem chk_zero {xs : List Txm} (h : (chkT formT xs).2 = 0) : xs.length ≤ 64 ∧ ∀ x ∈ xs, Frm x := by
  unfold chkT at h
  split at h
  · cases h
  · exact ⟨by omega, fun x hx => frm_of (firstT_zero h x hx)⟩
theorem chk_of {xs : List Txm} (h : xs.length ≤ 64) (h' : ∀ x ∈ xs, Frm x) : chkT formT xs = (0, 0) := by
  unfold chkT
  rw [if_neg (by omega)]
  exact firstT_all fun x hx => of_frm (h' x hx)
theorem kBs_len (l : List Ky) : (l.flatMap kB).length = 10 * l.length := by
  induction l with
  | nil => rfl
  | cons k l ih => rw [List.flatMap_cons, List.length_append, ih, kB_length, List.length_cons]; omega
theorem setB_len {l : List Ky} (h : l.length ≤ 16) : (setB l).length ≤ 170 := by
  have := encU_ten l.length (by omega)
  unfold setB
  rw [List.length_append, kBs_len]; omega
theorem argsB_len {l : List Int} (h : I64s l) : (argsB l).length ≤ 10 * l.length := by
  induction l with
  | nil => exact Nat.le_refl _
  | cons a l ih =>
    have := ih fun b hb => h b (List.mem_cons_of_mem _ hb)
    have h2 := encU_ten (zig a) (zig_lt (h a (List.mem_cons_self ..)))
    unfold argsB at *
    rw [List.flatMap_cons, List.length_append, List.length_cons]; omega
theorem txB_len {x : Txm} (h : Frm x) (h64 : I64s x.args) : (txB x).length ≤ 520 := by
  have h1 := encU_ten x.proc.toNat (by have := h.p1; omega)
  have h2 := encU_ten x.args.length (by have := h.a; omega)
  have h3 := argsB_len h64
  have h4 := setB_len h.r
  have h5 := setB_len h.w
  have h6 := h.a
  unfold txB
  simp only [List.length_append]; omega
theorem txsB_len : ∀ {xs : List Txm}, (∀ x ∈ xs, Frm x ∧ I64s x.args) → (xs.flatMap txB).length ≤ 520 * xs.length
  | [], _ => by simp
  | x :: r, h => by
    have h1 := txB_len (h x (List.mem_cons_self ..)).1 (h x (List.mem_cons_self ..)).2
    have h2 := txsB_len (xs := r) fun y hy => h y (List.mem_cons_of_mem _ hy)
    rw [List.flatMap_cons, List.length_append, List.length_cons]; omega
theorem flatMap_take_succ {α β : Type} (f : α → List β) {l : List α} {i : Nat} (h : i < l.length) : (l.take (i + 1)).flatMap f = (l.take i).flatMap f ++ f l[i] := by
  rw [List.take_succ_eq_append_getElem h, List.flatMap_append]; simp
end Go.Pl
namespace Go.Proofs.YtlnhecbgjjglfaaGreat
open Go Go.Sh Go.Pl Go.RowKit Go.Num
theorem callable_formed : callable Tryz.prog 24 = true := by kernel_rfl
set_option maxRecDepth 8000 in
theorem call_formed {p : Int} {ag rs ws : Slc} {w : World} {K : Int → World → Prop} (h : c_batch_formed p ag rs ws w K) :
    cvP Tryz.prog (.func (.func 24) #[] #[]) [.agg #[.int .i64 p, .slice ag.a ag.l ag.c, .slice rs.a rs.l rs.c, .slice ws.a ws.l ws.c]] w (fun v w2 => ∃ r : Int, v = .int .i64 r ∧ K r w2) :=
  cvP_of callable_formed h
set_option maxRecDepth 20000 in
theorem bform_ok {b : Slc} {xs : List Txm} {w : World} {K : Int → Int → World → Prop} (hb : RdB w b xs) (hK : ∀ w', Ch [] w w' → K (chkT formT xs).1 (chkT formT xs).2 w') : c_batch_first b (.func (.func 24) #[] #[]) w K :=
  first_ok (g := formT) hb (fun x ag rs ws ad w2 K' hc2 hA hK' => call_formed (formed_ok hA hK')) hK
theorem undA2 : Tryz.prog.underlying 85 = some (.array 2 44) := by kernel_rfl
theorem idx2 (a b : Slc) (m : Nat) (hm : m < 2) (w : World) : (Instr.index 85 (.agg #[.slice a.a a.l a.c, .slice b.a b.l b.c]) (.int .i64 (m : Int))).run Tryz.prog w = .ok (.slice ([a, b][m]'hm).a ([a, b][m]'hm).l ([a, b][m]'hm).c) w := by
  rcases (by omega : m = 0 ∨ m = 1) with rfl | rfl
  · kernel_rfl
  · kernel_rfl
set_option maxRecDepth 20000 in
set_option maxHeartbeats 2000000 in
theorem benc_ok {b : Slc} {xs : List Txm} {w : World} {K : Slc → Int → World → Prop} (hb : RdB w b xs) (h64 : ∀ x ∈ xs, I64s x.args)
    (hK : ∀ s w', Own w' 5 1 s (U8 (encT xs).1) → Ch [] w w' → Ge w.heap.size (blkOf s) → s.l = (encT xs).1.length → (s.a = none → s.l = 0) → K s (encT xs).2 w') : c_batch_Encode b w K := by
  refine sim_batch_Encode ?_
  unfold sh_batch_Encode
  refine bform_ok hb fun w1 hc1 => ?_
  have lb := hb.len
  have z1 := hc1.size
  unfold encT at hK
  refine iteB_ne (fun he => ?_) (fun he => ?_)
  · rw [if_neg he] at hK
    exact hK _ w1 (Own.nil _ _ _) hc1 (fun k hk => by cases hk) rfl (fun _ => rfl)
  rw [if_pos he] at hK
  dsimp only at hK
  obtain ⟨hn, hfr⟩ := chk_zero he
  have h10 : ∀ n, n < 18446744073709551616 → (encU n).length ≤ 10 := encU_ten
  refine WI.new fun bw w2 hw2 => ?_
  rw [wrap_u64 (by omega)]
  refine hw2.uint (n := xs.length) (by omega) (by omega) (by simp) fun w3 hw3 => ?_
  refine loopP_inv (fun st w9 => ∃ i : Nat, st.1 = (i : Int) ∧ i ≤ xs.length ∧ WI Nil w1 w9 bw (encU xs.length ++ (xs.take i).flatMap txB)) (fun st _ => xs.length - st.1.toNat) ⟨0, rfl, Nat.zero_le _, by simpa using hw3⟩ ?_
  rintro ⟨i0, u⟩ w9 next ⟨i, rfl, hi, hw9⟩ hnext
  dsimp only
  have pl : (encU xs.length ++ (xs.take i).flatMap txB).length ≤ 34000 := by
    have h1 := h10 xs.length (by omega)
    have h2 := txsB_len (xs := xs.take i) fun x hx => ⟨hfr x (List.mem_of_mem_take hx), h64 x (List.mem_of_mem_take hx)⟩
    rw [List.length_take] at h2
    rw [List.length_append]; omega
  refine iteB_dec (fun h => ?_) (fun h => ?_)
  · have hlt : i < xs.length := by omega
    obtain ⟨ad, ag, rs, ws, hA, ia⟩ := (hb.ch0 hc1).at' hlt
    have fx : Frm xs[i] := hfr _ (List.getElem_mem hlt)
    have f64 : I64s xs[i].args := h64 _ (List.getElem_mem hlt)
    have flat := flatMap_take_succ txB hlt
    generalize hP : encU xs.length ++ (xs.take i).flatMap txB = P at *
    generalize hx : xs[i] = x at *
    refine ia _ _ rfl (ldTx (hA.ch0 hw9.ch) ?_)
    obtain ⟨T, hT, hat⟩ := hw9.at
    refine newTx fun k1 w10 hc10 hb10 hk10 hs10 => ?_
    have hw10 := hat w10 hc10
    have back : ∀ {w' : World} {bs' : List UInt8}, WI T w10 w' bw bs' → WI Nil w1 w' bw bs' := fun h => hw9.back hT hc10 h
    have keep : ∀ {w' : World} {bs' : List UInt8}, WI T w10 w' bw bs' → Blk w' k1 #[.int .i64 x.proc, .slice ag.a ag.l ag.c, .slice rs.a rs.l rs.c, .slice ws.a ws.l ws.c] 46 := fun h => hb10.chg h.ch (fun ht => by have := (hT _ ht).1; omega)
    have l1 := hA.fa.len
    have l2 := hA.fr.len
    have l3 := hA.fw.len
    rw [Is_length] at l1
    obtain ⟨f1, f2, f3, f4, f5, f6, f7⟩ := fx
    refine ldI_b (o := 0) hb10 rfl ?_
    rw [wrap_u64 (by omega)]
    refine hw10.uint (n := x.proc.toNat) (by omega) (by omega) (by omega) fun w11 hw11 => ?_
    refine ldS_b (s := ag) (keep hw11) rfl ?_
    rw [wrap_u64 (by omega)]
    have e1 := h10 x.proc.toNat (by omega)
    have e2 := h10 x.args.length (by omega)
    refine hw11.uint (n := x.args.length) (by omega) (by omega) (by rw [List.length_append]; omega) fun w12 hw12 => ?_
    refine ldS_b (s := ag) (keep hw12) rfl ?_
    generalize hP2 : P ++ encU x.proc.toNat ++ encU x.args.length = P2 at *
    have pl2 : P2.length ≤ 34020 := by rw [← hP2]; simp only [List.length_append]; omega
    refine loopP_inv (fun st w => ∃ j : Nat, st.1 = (j : Int) ∧ j ≤ x.args.length ∧ WI T w10 w bw (P2 ++ argsB (x.args.take j))) (fun st _ => x.args.length - st.1.toNat) ⟨0, rfl, Nat.zero_le _, by simpa [argsB] using hw12⟩ ?_
    rintro ⟨j0, u⟩ w13 next2 ⟨j, rfl, hj, hw13⟩ hnext2
    dsimp only
    have pl3 : (P2 ++ argsB (x.args.take j)).length ≤ 34200 := by
      have := argsB_len (l := x.args.take j) fun a ha => f64 a (List.mem_of_mem_take ha)
      rw [List.length_take] at this
      rw [List.length_append]; omega
    refine iteB_dec (fun h => ?_) (fun h => ?_)
    · have hjlt : j < x.args.length := by omega
      refine (hA.ch0 (back hw13).ch).fa.get (v := x.args[j]) (by omega) (by rw [Int.toNat_natCast]; simp) ?_
      refine hw13.int (f64 _ (List.getElem_mem hjlt)) (by omega) fun w14 hw14 => ?_
      rw [wrap_i64 (by omega)]
      refine hnext2 _ _ ⟨j + 1, by simp, hjlt, ?_⟩ (by simp; omega)
      unfold argsB at hw14 ⊢
      rw [flatMap_take_succ _ hjlt, ← List.append_assoc]
      exact hw14
    · have hje : j = x.args.length := by omega
      subst hje
      rw [List.take_length] at hw13 pl3
      refine ldS_b (s := rs) (keep hw13) rfl (ldS_b (s := ws) (keep hw13) rfl ?_)
      generalize hP3 : P2 ++ argsB x.args = P3 at *
      refine loopP_inv (fun st w => ∃ m : Nat, st.1 = (m : Int) ∧ m ≤ 2 ∧ WI T w10 w bw (P3 ++ ([setB x.reads, setB x.writes].take m).flatten)) (fun st _ => 2 - st.1.toNat) ⟨0, rfl, by omega, by simpa using hw13⟩ ?_
      rintro ⟨m0, u⟩ w15 next3 ⟨m, rfl, hm, hw15⟩ hnext3
      dsimp only
      refine iteB_dec (fun h => ?_) (fun h => ?_)
      · have hm2 : m < 2 := by omega
        refine ⟨_, w15, idx2 rs ws m hm2 w15, ?_⟩
        have hq : ∃ ks, RdC w1 ([rs, ws][m]'hm2) ks ∧ ks.length ≤ 16 ∧ rises ks = true ∧ ([setB x.reads, setB x.writes].take (m + 1)).flatten = ([setB x.reads, setB x.writes].take m).flatten ++ setB ks ∧ (([setB x.reads, setB x.writes].take m).flatten).length ≤ 170 := by
          rcases (by omega : m = 0 ∨ m = 1) with rfl | rfl
          · exact ⟨x.reads, hA.fr, f4, f6, by simp, by simp⟩
          · exact ⟨x.writes, hA.fw, f5, f7, by simp, by simpa using setB_len f4⟩
        obtain ⟨ks, hR, hk16, hkr, hflat, hfl⟩ := hq
        generalize [rs, ws][m]'hm2 = q at *
        have lq := hR.len
        rw [wrap_u64 (by omega)]
        generalize hP4 : P3 ++ ([setB x.reads, setB x.writes].take m).flatten = P4 at *
        have pl4 : P4.length ≤ 34400 := by rw [← hP4, List.length_append]; omega
        have e3 := h10 ks.length (by omega)
        refine hw15.uint (n := ks.length) (by omega) (by omega) (by omega) fun w16 hw16 => ?_
        refine loopP_inv (fun st w => ∃ n : Nat, st.1 = (n : Int) ∧ n ≤ ks.length ∧ WI T w10 w bw (P4 ++ encU ks.length ++ (ks.take n).flatMap kB)) (fun st _ => ks.length - st.1.toNat) ⟨0, rfl, Nat.zero_le _, by simpa using hw16⟩ ?_
        rintro ⟨n0, u⟩ w17 next4 ⟨n, rfl, hn4, hw17⟩ hnext4
        dsimp only
        refine iteB_dec (fun h => ?_) (fun h => ?_)
        · have hnlt : n < ks.length := by omega
          refine (hR.ch0 (back hw17).ch).idx rfl hnlt fun ad b1 b2 => ldI_of b1 (ldI_of b2 ?_)
          refine newIn fun k2 w18 hc18 hb18 hk18 hs18 => ?_
          refine ldI_b (o := 0) hb18 rfl (ldI_b (o := 1) hb18 rfl ?_)
          refine kbytes_ok (k := ks[n]) (rises_ok_at hkr _ (List.getElem_mem hnlt)) fun y w19 hy hc19 hg19 hl19 => ?_
          refine (hw17.ch0 (hc18.tr hc19)).raw hy.rd hy.none0 ?_ fun w20 hw20 => ?_
          · simp only [List.length_append, kBs_len, kB_length, List.length_take]; omega
          rw [wrap_i64 (by omega)]
          refine hnext4 _ _ ⟨n + 1, by simp, hnlt, ?_⟩ (by simp; omega)
          rw [flatMap_take_succ _ hnlt, ← List.append_assoc]
          exact hw20
        · have hne : n = ks.length := by omega
          subst hne
          rw [List.take_length] at hw17
          rw [wrap_i64 (by omega)]
          refine hnext3 _ _ ⟨m + 1, by simp, by omega, ?_⟩ (by simp; omega)
          rw [hflat, ← List.append_assoc, hP4]
          unfold setB
          rw [← List.append_assoc]
          exact hw17
      · have hm2 : m = 2 := by omega
        subst hm2
        rw [wrap_i64 (by omega)]
        refine hnext _ _ ⟨i + 1, by simp, hlt, ?_⟩ (by simp; omega)
        rw [flat, ← List.append_assoc, hP]
        have hw := back hw15
        rw [← hP3, ← hP2] at hw
        unfold txB
        simpa using hw
  · have hie : i = xs.length := by omega
    subst hie
    rw [List.take_length] at hw9
    refine hw9.out (by rw [List.take_length] at pl; omega) fun s w' ho hc hg hl hnil => ?_
    have zz := hw9.ch.size
    exact hK s w' ho ((hc1.tr hw9.ch).tr hc) (fun k hk => by have := hg k hk; omega) hl hnil
/-- Bytes that are being made, in new memory. -/
structure OB (w0 w : World) (s : Slc) (bs : List UInt8) : Prop where
  own : Own w 5 1 s (U8 bs)
  ch : Ch [] w0 w
  ge : Ge w0.heap.size (blkOf s)
theorem OB.ch0 {w0 w w' : World} {s : Slc} {bs : List UInt8} (h : OB w0 w s bs) (hc : Ch [] w w') : OB w0 w' s bs := ⟨h.own.ch0 hc, h.ch.tr hc, h.ge⟩
theorem OB.app {w0 w : World} {s x : Slc} {bs xs : List UInt8} {K : Slc → World → Prop} (h : OB w0 w s bs) (hx : Rd w x (U8 xs)) (hxn : x.a = none → x.l = 0 ∧ x.c = 0) (hl : bs.length + xs.length ≤ 100000000)
    (hK : ∀ s' w', OB w0 w' s' (bs ++ xs) → K s' w') : apP Tryz.prog #[23, 23] 23 [.slice s.a s.l s.c, .slice x.a x.l x.c] w K := by
  have l1 := U8_own h.own
  have l2 := hx.len
  rw [U8_length] at l2
  refine apO TU8 h.own hx hxn (U8_one _) (by omega) (by omega) fun s' w' ho hl' hg => ?_
  obtain ⟨hc, hf⟩ := hg.ch
  have z := h.ch.size
  refine hK s' w' ⟨by rw [U8_append]; exact ho, h.ch.trO hc h.ge, fun k hk => ?_⟩
  rcases hf k hk with g | g
  · exact h.ge k g
  · omega
end Go.Proofs.YtlnhecbgjjglfaaGreat
