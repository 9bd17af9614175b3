/- LawG: a script's call written; the law CodecBack. -/
import Derived.Test.YtmadhcoeiclalaaLawF
set_option linter.unusedVariables false
set_option linter.unusedSimpArgs false
namespace Go.Num
theorem back_upto {bs r : List UInt8} {at_ n most : Nat} (hn : n < 18446744073709551616) (hm : n ≤ most) (h : bs.drop at_ = encU n ++ r) : rUpto bs at_ 0 most = (n, at_ + (encU n).length, 0) := by
  unfold rUpto
  rw [if_neg (by simp), h, dnum_encU n r hn]
  simp only
  rw [if_neg (by simp), if_neg (by omega)]
theorem back_raw {bs b r : List UInt8} {at_ : Nat} (hle : at_ ≤ bs.length) (h : bs.drop at_ = b ++ r) : rRaw bs at_ 0 (b.length : Int) = (b, at_ + b.length, 0) := by
  have hl := congrArg List.length h
  simp only [List.length_drop, List.length_append] at hl
  unfold rRaw
  rw [if_neg (by simp), if_neg (by omega), if_neg (by omega), h, Int.toNat_natCast, List.take_left]
theorem back_bytes {bs b r : List UInt8} {at_ : Nat} (hb : b.length < 18446744073709551616) (hle : at_ ≤ bs.length) (h : bs.drop at_ = (encU b.length ++ b) ++ r) : rBytes bs at_ 0 (b.length : Int) = (b, at_ + (encU b.length ++ b).length, 0) := by
  have hl := congrArg List.length h
  simp only [List.length_drop, List.length_append] at hl
  rw [List.append_assoc] at h
  have h2 : bs.drop (at_ + (encU b.length).length) = b ++ r := by rw [← List.drop_drop, h, List.drop_left]
  unfold rBytes
  rw [if_neg (by simp), h, dnum_encU _ _ hb]
  simp only
  rw [if_neg (by simp), if_neg (by omega), if_neg (by omega), h2, List.take_left, List.length_append, Nat.add_assoc]
theorem cut_raw {bs : List UInt8} {at_ n : Nat} {e : Int} (h : (rRaw bs at_ e (n : Int)).2.2 = 0) : (rRaw bs at_ e (n : Int)).2.1 = at_ + n := by
  unfold rRaw at h ⊢
  split at h
  · rename_i he; exact absurd h he
  · split at h
    · simp at h
    · split at h
      · simp at h
      · rename_i h1 h2 h3
        rw [if_neg h1, if_neg h2, if_neg h3]
        simp
theorem cut_upto {bs r : List UInt8} {at_ n most j : Nat} {e : Int} (hn : n < 18446744073709551616) (hd : bs.drop at_ = (encU n ++ r).take j) (h : (rUpto bs at_ e most).2.2 = 0) : (rUpto bs at_ e most).2.1 = at_ + (encU n).length := by
  unfold rUpto at h ⊢
  split at h
  · rename_i he; exact absurd h he
  · rename_i he
    rw [if_neg he]
    rcases hx : dnum 0 0 (bs.drop at_) with ⟨v, k, d⟩
    rw [hx] at h
    simp only at h ⊢
    split at h
    · rename_i h0; exact absurd h h0
    · rename_i h0
      have hd0 : d = 0 := by omega
      subst hd0
      rw [if_neg h0]
      rw [hd] at hx
      have := dnum_cut hn hx
      split at h
      · simp at h
      · rename_i h1
        rw [if_neg h1, this.2]
theorem cut_bytes {bs b r : List UInt8} {at_ j : Nat} {e : Int} (hn : b.length < 18446744073709551616) (hd : bs.drop at_ = ((encU b.length ++ b) ++ r).take j) (h : (rBytes bs at_ e (b.length : Int)).2.2 = 0) : (rBytes bs at_ e (b.length : Int)).2.1 = at_ + (encU b.length ++ b).length := by
  rw [List.append_assoc] at hd
  unfold rBytes at h ⊢
  split at h
  · rename_i he; exact absurd h he
  · rename_i he
    rw [if_neg he]
    rcases hx : dnum 0 0 (bs.drop at_) with ⟨v, k, d⟩
    rw [hx] at h
    simp only at h ⊢
    split at h
    · rename_i h0; exact absurd h h0
    · rename_i h0
      have hd0 : d = 0 := by omega
      subst hd0
      rw [if_neg h0]
      rw [hd] at hx
      have hc := dnum_cut hn hx
      split at h
      · simp at h
      · rename_i h1
        rw [if_neg h1]
        split at h
        · simp at h
        · rename_i h2
          rw [if_neg h2, hc.2, hc.1, List.length_append, Nat.add_assoc]
end Go.Num
namespace Go.Proofs.Ytmadhcoeiclalaa
open Go Go.Sh Go.Pl Go.RowKit Go.Num Go.Gt
/-- What a call writes. -/
def encO (o : OpM) : List UInt8 :=
  if o.1 = 1 then [UInt8.ofNat o.2.1.toNat] else if o.1 = 2 ∨ o.1 = 6 then encU o.2.1.toNat else if o.1 = 3 then encU (zig (IntKind.i64.wrap o.2.1)) else
  if o.1 = 4 then encU o.2.2.1.length ++ o.2.2.1 else if o.1 = 5 then o.2.2.1 else []
theorem wrap_u8_of {n : Int} (h : 0 ≤ n) : IntKind.u8.wrap n = ((UInt8.ofNat n.toNat).toNat : Int) := by
  have := wrap_u8_nat n.toNat
  rwa [show ((n.toNat : Nat) : Int) = n by omega] at this
theorem wrap_i64_in (n : Int) : -9223372036854775808 ≤ IntKind.i64.wrap n ∧ IntKind.i64.wrap n ≤ 9223372036854775807 := by
  simp only [IntKind.wrap, IntKind.signed, IntKind.bits]
  simp
  split <;> omega
set_option maxRecDepth 20000 in
theorem written_ok {w0 w : World} {b : Nat} {s sl : Slc} {bs : List UInt8} {o : OpM} {K : Bool → World → Prop} (h : Wr w b s bs) (hc0 : Chg Nil w0 w) (hb0 : w0.heap.size ≤ b) (hs0 : NewS w0.heap.size s) (hx : Rd w0 sl (U8 o.2.2.1)) (hn : sl.a = none → sl.l = 0 ∧ sl.c = 0)
    (g0 : (Lit.int .i64 o.1).wf = true) (g1 : (Lit.int .u64 o.2.1).wf = true) (hl : bs.length + o.2.2.1.length + 10 ≤ 140737488351232)
    (hK : ∀ s' w', Wr w' b s' (bs ++ encO o) → WSt b s s' w w' → K true w') : c_preludelaw01_written (some ⟨b, 0, none⟩) o.1 o.2.1 sl o.2.2.2.1 o.2.2.2.2.1 w K := by
  refine sim_preludelaw01_written ?_
  unfold sh_preludelaw01_written
  obtain ⟨o0, o1, xs, o3, o4, ⟨⟩⟩ := o
  simp only at hx g0 g1 hl hK ⊢
  have g0 := wf_i64 g0
  have g1 := wf_u64 g1
  have hblt := h.blk.lt
  have hslt := h.own.lt
  refine newP_intro fun w2 hc2 hb2 hs2 => ?_
  have cell : ∀ {w' : World} {o : Nat} {v : Value}, Blk w' w.heap.size #[.int .i64 o0, .int .u64 o1, .slice sl.a sl.l sl.c, .int .i64 o3, .bool o4] 34 → (#[.int .i64 o0, .int .u64 o1, .slice sl.a sl.l sl.c, .int .i64 o3, .bool o4] : Array Value)[o]? = some v → w'.cell? ((⟨w.heap.size, 0, none⟩ : Addr).add o) = some v := fun hb hv => by rw [add_mk, Nat.zero_add, hb.cell]; exact hv
  refine ldS_of (cell (o := 2) hb2 rfl) ?_
  have hc2' := chgNN hc0 hc2
  refine roomy_ok (bs := xs) (hx.chg hc2' fun _ _ h => h) (fun h => (hn h).1) (by omega) fun w6 hc6 hb6 hs6 => ?_
  have hc6' := chgNN hc2' hc6
  have hcw6 := chgNN hc2 hc6
  have hb26 := hb2.chg hc6 fun h => h
  have hw6 := h.nil hcw6
  refine ldI_of (cell (o := 0) hb26 rfl) ?_
  have hr6 : Rd w6 ⟨some ⟨w2.heap.size, 0, none⟩, xs.length, xs.length + 3⟩ (U8 xs) := by
    have := hb6.rd (o := 0) (l := xs.length) (c := xs.length + 3) (by simp) (by omega)
    rw [List.drop_zero, U8_take] at this
    simpa using this
  have tail : ∀ (s' : Slc) (w9 : World), Wr w9 b s' (bs ++ encO (o0, o1, xs, o3, o4, ())) → WSt b s s' w6 w9 →
      ldS ((⟨w.heap.size, 0, none⟩ : Addr).add 2) w9 fun s10 => c_preludelaw01_intact ⟨some ⟨w2.heap.size, 0, none⟩, xs.length + 3, xs.length + 3⟩ s10 w9 fun r11 w12 => loopP (σ := Int × Unit) (fun st14 next13 w15 => (fun (i_16 : Int) => iteB (decide ((i_16 : Int) < ((xs.length + 3 : Nat) : Int)))
        (idxP (some (⟨w2.heap.size, 0, none⟩ : Addr)) (xs.length + 3) i_16 1 fun a17 => stP a17 (.int .u8 5) w15 fun w18 => next13 ((IntKind.i64.wrap (i_16 + 1)), ()) w18)
        (K r11 w15)) st14.1) (0, ()) w12 := by
    intro s' w9 hw9 g9
    have hout : ∀ k, w.heap.size ≤ k → k < w6.heap.size → ¬ (k = b ∨ some k = blkOf s) := fun k h1 h2 he => by
      rcases he with he | he
      · omega
      · have := hslt k he.symm; omega
    have hb29 := hb26.chg g9.chg (hout _ (Nat.le_refl _) (by omega))
    refine ldS_of (cell (o := 2) hb29 rfl) ?_
    have hb69 := hb6.chg g9.chg (hout _ (by omega) (by omega))
    have hc9 : Chg Nil w0 w9 := g9.nil hc6' hb0 hs0
    have hf9 : Rd w9 ⟨some ⟨w2.heap.size, 0, none⟩, xs.length + 3, xs.length + 3⟩ (U8 (xs ++ [171, 171, 171])) := by
      have := hb69.rd (o := 0) (l := xs.length + 3) (c := xs.length + 3) (by simp) (by omega)
      rw [List.drop_zero, U8_take, List.take_of_length_le (by simp)] at this
      exact this
    refine intact_ok hf9 rfl (hx.chg hc9 fun _ _ h => h) (by omega) fun w12 hd12 => ?_
    have hs9 : ∀ k, blkOf s' = some k → k ≠ w2.heap.size := fun k hk he => by
      rcases g9.blk k hk with h1 | h1
      · have := hslt k h1; omega
      · omega
    refine loopP_inv (fun st w15 => ∃ (i : Nat) (cur : Array Value), st.1 = (i : Int) ∧ i ≤ xs.length + 3 ∧ cur.size = xs.length + 3 ∧ Blk w15 w2.heap.size cur 5 ∧ Chg (fun k => k = w2.heap.size) w9 w15) (fun st _ => xs.length + 3 - st.1.toNat)
      ⟨0, _, rfl, Nat.zero_le _, by simp, hb69.drw hd12, hd12.chg _⟩ ?_
    rintro ⟨i0, u⟩ w15 next ⟨i, cur, rfl, hi, hcs, hb15, hc15⟩ hnext
    simp only
    refine iteB_intro (fun h => ?_) (fun h => ?_)
    · have hlt : i < xs.length + 3 := by simp at h; omega
      refine idxP_intro (by omega) (by omega) rfl ?_
      rw [add_mk, Nat.zero_add, Nat.mul_one, Int.toNat_natCast]
      refine stP_intro hb15 (by omega) fun w16 hc16 hb16 hs16 => ?_
      rw [wrap_i64 (by omega)]
      exact hnext _ _ ⟨i + 1, _, by simp, hlt, by simpa using hcs, hb16, hc15.step hc16 fun _ _ h => h⟩ (by simp; omega)
    · have := hK s' w15 (hw9.chg hc15 (by omega) fun k hk he => hs9 k hk he) ⟨((WSt.after hcw6 g9).chg).step hc15 fun i hi he => by omega, fun k hk => (WSt.after hcw6 g9).blk k hk⟩
      simpa using this
  have kind : ∀ {k : Int}, (o0 == k) = true → o0 = k := fun h => by simpa using h
  have nkind : ∀ {k : Int}, (o0 == k) = false → o0 ≠ k := fun h => by simpa using h
  obtain ⟨m, rfl⟩ : ∃ m : Nat, o1 = (m : Int) := ⟨o1.toNat, by omega⟩
  have u : o0 = 2 ∨ o0 = 6 → ∀ s' w9, Wr w9 b s' (bs ++ encU m) → Wr w9 b s' (bs ++ encO (o0, (m : Int), xs, o3, o4, ())) := fun hu s' w9 hw => by
    have e : encO (o0, (m : Int), xs, o3, o4, ()) = encU m := by unfold encO; rw [if_neg (by simp only; omega), if_pos hu]; rfl
    rwa [e]
  have z : o0 = 3 → ∀ s' w9, Wr w9 b s' (bs ++ encU (zig (IntKind.i64.wrap (m : Int)))) → Wr w9 b s' (bs ++ encO (o0, (m : Int), xs, o3, o4, ())) := fun hu s' w9 hw => by
    have e : encO (o0, (m : Int), xs, o3, o4, ()) = encU (zig (IntKind.i64.wrap (m : Int))) := by unfold encO; rw [if_neg (by simp only; omega), if_neg (by simp only; omega), if_pos hu]
    rwa [e]
  refine iteB_intro (fun h1 => ?_) (fun h1 => ?_)
  · have h1 := kind h1
    refine ldI_of (cell (o := 1) hb26 rfl) ?_
    rw [wrap_u8_of (by omega)]
    refine wbyte_ok hw6 (by omega) fun s' w9 hw9 g9 => tail s' w9 ?_ g9
    have e : encO (o0, (m : Int), xs, o3, o4, ()) = [UInt8.ofNat (m : Int).toNat] := by unfold encO; rw [if_pos h1]
    rwa [e]
  have h1 := nkind h1
  refine iteB_intro (fun h2 => ?_) (fun h2 => ?_)
  · refine iteB_pos h2 ?_
    have h2 := kind h2
    refine ldI_of (cell (o := 1) hb26 rfl) ?_
    exact wuint_ok hw6 (by omega) (by omega) fun s' w9 hw9 g9 => tail s' w9 (u (.inl h2) _ _ hw9) g9
  have h2 := nkind h2
  refine iteB_intro (fun h6 => ?_) (fun h6 => ?_)
  · have h6 := kind h6
    refine ldI_of (cell (o := 1) hb26 rfl) ?_
    exact wuint_ok hw6 (by omega) (by omega) fun s' w9 hw9 g9 => tail s' w9 (u (.inr h6) _ _ hw9) g9
  have h6 := nkind h6
  refine iteB_intro (fun h3 => ?_) (fun h3 => ?_)
  · have h3 := kind h3
    refine ldI_of (cell (o := 1) hb26 rfl) ?_
    exact wint_ok hw6 (wrap_i64_in _) (by omega) fun s' w9 hw9 g9 => tail s' w9 (z h3 _ _ hw9) g9
  have h3 := nkind h3
  refine iteB_intro (fun h4 => ?_) (fun h4 => ?_)
  · have h4 := kind h4
    refine wbytes_ok hw6 hr6 (fun h => by cases h) (fun k hk => by
      simp [blkOf] at hk; subst hk
      exact ⟨by omega, fun he => by have := hslt _ he; omega⟩) (by omega) fun s' w9 hw9 g9 => tail s' w9 ?_ g9
    have e : encO (o0, (m : Int), xs, o3, o4, ()) = encU xs.length ++ xs := by unfold encO; rw [if_neg h1, if_neg (by simp only; omega), if_neg h3, if_pos h4]
    rwa [e]
  have h4 := nkind h4
  refine iteB_intro (fun h5 => ?_) (fun h5 => ?_)
  · have h5 := kind h5
    refine wraw_ok hw6 hr6 (fun h => by cases h) (by omega) fun s' w9 hw9 g9 => tail s' w9 ?_ g9
    have e : encO (o0, (m : Int), xs, o3, o4, ()) = xs := by unfold encO; rw [if_neg h1, if_neg (by simp only; omega), if_neg h3, if_neg h4, if_pos h5]
    rwa [e]
  have h5 := nkind h5
  have e : encO (o0, (m : Int), xs, o3, o4, ()) = [] := by unfold encO; rw [if_neg h1, if_neg (by simp only; omega), if_neg h3, if_neg h4, if_neg h5]
  exact tail s w6 (by rw [e, List.append_nil]; exact hw6) (WSt.refl _ _ _)
theorem OpAt.chg {w w' : World} {ad : Addr} {s : Slc} {o : OpM} (h : OpAt w ad s o) (hc : Chg Nil w w') : OpAt w' ad s o :=
  ⟨cell_chg hc h.c0 fun h => h, cell_chg hc h.c1 fun h => h, cell_chg hc h.c2 fun h => h, cell_chg hc h.c3 fun h => h, cell_chg hc h.c4 fun h => h, h.rd.chg hc fun _ _ h => h, h.no, h.w0, h.w1, h.w3⟩
def allO (os : List OpM) (i : Nat) : List UInt8 := (os.take i).flatMap encO
theorem allO_succ (os : List OpM) {i : Nat} (h : i < os.length) : allO os (i + 1) = allO os i ++ encO os[i] := by
  unfold allO
  rw [List.take_succ_eq_append_getElem h, List.flatMap_append]
  simp
theorem allO_split (os : List OpM) (i : Nat) : ∀ d, ∃ r, allO os (i + d) = allO os i ++ r := by
  intro d
  refine ⟨((os.drop i).take d).flatMap encO, ?_⟩
  unfold allO
  rw [List.take_add, List.flatMap_append]
theorem allO_cut (os : List OpM) {i : Nat} (h : i < os.length) : ∃ r, allO os os.length = allO os i ++ (encO os[i] ++ r) := by
  obtain ⟨r, hr⟩ := allO_split os (i + 1) (os.length - (i + 1))
  rw [show i + 1 + (os.length - (i + 1)) = os.length by omega, allO_succ os h, List.append_assoc] at hr
  exact ⟨r, hr⟩
def opB (o : OpM) : Nat := 1 + (1 + (o.2.2.1.length + 1 + (1 + (1 + 0)))) + 1
theorem encO_len {o : OpM} (h : (Lit.int .u64 o.2.1).wf = true) (hb : o.2.2.1.length ≤ 1048576) : (encO o).length ≤ 10 * opB o := by
  have hk : opB o = 1 + (1 + (o.2.2.1.length + 1 + (1 + (1 + 0)))) + 1 := rfl
  have g := wf_u64 h
  have h1 := encU_ten o.2.1.toNat (by omega)
  have h2 := encU_ten (zig (IntKind.i64.wrap o.2.1)) (zig_lt (wrap_i64_in _))
  have h3 := encU_ten o.2.2.1.length (by omega)
  unfold encO
  repeat' split
  all_goals (try simp only [List.length_append, List.length_cons, List.length_nil])
  all_goals omega
theorem sum_at {α : Type} (f : α → Nat) : ∀ (l : List α) (i : Nat) (h : i < l.length), f l[i] ≤ (l.map f).sum
  | a :: l, 0, h => by simp
  | a :: l, i + 1, h => by
    have := sum_at f l i (by simpa using h)
    simp only [List.getElem_cons_succ, List.map_cons, List.sum_cons]; omega
theorem allO_len (os : List OpM) (hw : ∀ i (h : i < os.length), (encO os[i]).length ≤ 10 * opB os[i]) : ∀ i, i ≤ os.length → (allO os i).length ≤ 10 * (os.map opB).sum := by
  have key : ∀ i, i ≤ os.length → (allO os i).length ≤ 10 * ((os.take i).map opB).sum := by
    intro i
    induction i with
    | zero => intro _; simp [allO]
    | succ i ih =>
      intro hi
      have := ih (by omega)
      have h2 := hw i hi
      rw [allO_succ os hi, List.length_append, List.take_succ_eq_append_getElem hi, List.map_append, List.sum_append]
      simp only [List.map_cons, List.map_nil, List.sum_cons, List.sum_nil]
      omega
  intro i hi
  have h := congrArg (fun l : List OpM => (l.map opB).sum) (List.take_append_drop i os)
  simp only [List.map_append, List.sum_append] at h
  have := key i hi
  omega
theorem rep_wf {R : Nat} {w : World} {x : Slc} {os : List OpM} (h : Rep R w (.sl 56 opG) [.slice x.a x.l x.c] os) {i : Nat} (hi : i < os.length) : (Lit.int .u64 os[i].2.1).wf = true := by
  have : idxP x.a x.l (i : Int) 5 fun _ => (Lit.int .u64 os[i].2.1).wf = true := op_at h (Chg.refl _ _) hi fun ad s hop => hop.w1
  exact this.2.2.choose_spec.2
set_option maxRecDepth 20000 in
theorem law_CodecBack {x : Slc} {os : List OpM} {w : World} (k1 : Rep reachBytes w (.sl 56 opG) [.slice x.a x.l x.c] os)
    (hb : bulk (.pair (.sl 56 opG) .unit) (os, ()) ≤ 1048576) : c_preludelaw01_CodecBack x w fun r w' => r = true ∧ Chg Nil w w' := by
  refine sim_preludelaw01_CodecBack ?_
  unfold sh_preludelaw01_CodecBack
  have hsum : (os.map opB).sum + 1 + 0 ≤ 1048576 := hb
  have hol : List.length (α := OpM) os ≤ (os.map opB).sum := sum_len opB (fun a => Nat.le_add_left 1 _) os
  have hbl : ∀ i (h : i < List.length (α := OpM) os), (List.length (α := UInt8) (os[i] : OpM).2.2.1) + 6 ≤ 1048576 := fun i h => by
    have h1 := sum_at (α := OpM) opB os i h
    have h2 : opB (os[i] : OpM) = 1 + (1 + ((os[i] : OpM).2.2.1.length + 1 + (1 + (1 + 0)))) + 1 := rfl
    omega
  have hlen := allO_len os fun i h => encO_len (rep_wf k1 h) (by have := hbl i h; omega)
  have hxl : x.l = List.length (α := OpM) os := by
    obtain ⟨s, he, hl, _⟩ := k1
    have he' : x.a = s.a ∧ x.l = s.l ∧ x.c = s.c := by simpa using he
    rw [he'.2.1]; exact hl
  obtain ⟨N, hN⟩ : ∃ N, List.length (α := OpM) os = N := ⟨_, rfl⟩
  rw [hN] at hol hlen hxl
  refine awake_ok fun w1 hc1 => ?_
  refine iteB_neg (by simp) ?_
  refine new_ok fun w2 hw2 hc2 hs2 => ?_
  have hc2' := chgNN hc1 hc2
  refine loopP_inv (fun st w3 => ∃ (i : Nat) (sw : Slc), st.1 = (i : Int) ∧ i ≤ N ∧ Wr w3 w1.heap.size sw (allO os i) ∧ Chg Nil w w3 ∧ NewS w.heap.size sw) (fun st _ => N - st.1.toNat)
    ⟨0, _, rfl, Nat.zero_le _, by simpa [allO] using hw2, hc2', fun b h => by cases h⟩ ?_
  rintro ⟨i0, u⟩ w3 next ⟨i, sw, rfl, hi, hw3, hc3, hns3⟩ hnext
  simp only
  have hli := hlen i hi
  refine iteB_intro (fun h => ?_) (fun h => ?_)
  · have hlt : i < N := by simp [hxl] at h; omega
    have hlt' : i < List.length (α := OpM) os := by omega
    have hbi := hbl i hlt'
    refine op_at k1 (Chg.refl _ _) hlt' fun ad s hop0 => ?_
    have hop := hop0.chg hc3
    refine ldI_of hop.c0 ?_
    refine ldI_of hop.c1 ?_
    refine ldS_of hop.c2 ?_
    refine ldI_of hop.c3 ?_
    refine ldB_of hop.c4 ?_
    have hsucc := allO_succ os hlt'
    refine written_ok (w0 := w) (o := os[i]) hw3 hc3 hc1.size hns3 hop0.rd hop.no hop.w0 hop.w1 (by omega) fun s' w4 hw4 g4 => ?_
    rw [← hsucc] at hw4
    rw [wrap_i64 (by omega)]
    exact hnext _ _ ⟨i + 1, s', by simp, hlt, hw4, g4.nil hc3 hc1.size hns3, g4.new hns3 hc3.size⟩ (by simp; omega)
  · have hge : i = N := by simp [hxl] at h; omega
    subst hge
    refine wout_ok hw3 (by omega) fun l w4 ho4 hc4 hn4 hl4 hnil4 => ?_
    have hc4' := chgNN hc3 hc4
    refine read_ok ho4.rd (by omega) fun br sr w5 hr5 hc5 hbr5 hn5 hsr5 => ?_
    have hc5' := chgNN hc4' hc5
    have hbr0 : w.heap.size ≤ br := Nat.le_trans hc4'.size hbr5
    have fr : ∀ {wa wb : World}, Chg Nil w wa → Chg (Of br) wa wb → Chg Nil w wb := fun h k => h.step k fun i hi he => by subst he; omega
    have hall : allO os i = allO os (List.length (α := OpM) os) := by rw [hN]
    refine loopP_inv (fun st w6 => ∃ (j : Nat), st.1 = (j : Int) ∧ j ≤ i ∧ Rr w6 br sr (allO os i) (allO os j).length 0 ∧ Chg Nil w w6 ∧ Chg (Of br) w5 w6) (fun st _ => i - st.1.toNat)
      ⟨0, rfl, Nat.zero_le _, by simpa [allO] using hr5, hc5', Chg.refl _ _⟩ ?_
    rintro ⟨j0, u⟩ w6 next2 ⟨j, rfl, hj, hr6, hc6, hc56⟩ hnext2
    simp only
    refine iteB_intro (fun h => ?_) (fun h => ?_)
    · have hlt : j < i := by simp [hxl] at h; omega
      have hlt' : j < List.length (α := OpM) os := by omega
      have hbj := hbl j hlt'
      obtain ⟨r, hr⟩ := allO_cut os hlt'
      rw [← hall] at hr
      have hsucc := allO_succ os hlt'
      have hlj := hlen j (by omega)
      have hdrop : (allO os i).drop (allO os j).length = encO os[j] ++ r := by rw [hr, List.drop_left]
      refine op_at k1 (Chg.refl _ _) hlt' fun ad s hop0 => ?_
      have hop := hop0.chg hc6
      refine ldI_of hop.c0 ?_
      refine ldI_of hop.c1 ?_
      refine ldS_of hop.c2 ?_
      refine ldI_of hop.c3 ?_
      refine ldB_of hop.c4 ?_
      have g0 := wf_i64 hop.w0
      have g1 := wf_u64 hop.w1
      have g3 := wf_i64 hop.w3
      have ej : IntKind.i64.wrap ((j : Int) + 1) = ((j + 1 : Nat) : Int) := by rw [wrap_i64 (by omega)]; omega
      rw [ej]
      have step : ∀ w' at2, Rr w' br sr (allO os i) at2 0 → at2 = (allO os (j + 1)).length → Chg Nil w w' → Chg (Of br) w5 w' → next2 (((j + 1 : Nat) : Int), ()) w' := fun w' at2 h1 h2 h3 h4 =>
        hnext2 _ _ ⟨j + 1, rfl, hlt, by rw [← h2]; exact h1, h3, h4⟩ (by simp; omega)
      have hs1 : (allO os (j + 1)).length = (allO os j).length + (encO os[j]).length := by rw [hsucc, List.length_append]
      clear hsucc
      generalize (os[j] : OpM) = o at *
      obtain ⟨o0, o1, xs, o3, o4, ⟨⟩⟩ := o
      simp only at hop hop0 g0 g1 g3 hbj
      refine op_copy fun cb w7 hb7 hc7 hcb => ?_
      have hc7' := chgNN hc6 hc7
      have hr7 := hr6.nil hc7
      have h57 := chgN br hc56 hc7
      have hbr6 := hr6.blk.lt
      have cell : ∀ {w' : World} {o : Nat} {v : Value}, Blk w' cb #[.int .i64 o0, .int .u64 o1, .slice s.a s.l s.c, .int .i64 o3, .bool o4] 34 → (#[.int .i64 o0, .int .u64 o1, .slice s.a s.l s.c, .int .i64 o3, .bool o4] : Array Value)[o]? = some v → w'.cell? ((⟨cb, 0, none⟩ : Addr).add o) = some v := fun hb hv => by rw [add_mk, Nat.zero_add, hb.cell]; exact hv
      have hb7d := hb7.drw (Drw.refl w7).drew
      have h57d := chgO br h57 (drewO br w7)
      have hc7d : Chg Nil w w7.drew := chgNN hc7' ((Drw.refl w7).drew.chg Nil)
      refine ldI_of (cell (o := 0) hb7 rfl) ?_
      have kind : ∀ {k : Int}, (o0 == k) = true → o0 = k := fun h => by simpa using h
      have nkind : ∀ {k : Int}, (o0 == k) = false → o0 ≠ k := fun h => by simpa using h
      obtain ⟨m, rfl⟩ : ∃ m : Nat, o1 = (m : Int) := ⟨o1.toNat, by omega⟩
      have hx7 : Rd w7.drew s (U8 xs) := hop0.rd.chg hc7d fun _ _ h => h
      refine iteB_intro (fun h1 => ?_) (fun h1 => ?_)
      · have h1 := kind h1
        have e : encO (o0, (m : Int), xs, o3, o4, ()) = [UInt8.ofNat m] := by unfold encO; rw [if_pos h1]; rfl
        rw [e] at hdrop hs1
        have q := back_raw (b := [UInt8.ofNat m]) hr7.le hdrop
        refine ldI_of (cell (o := 1) hb7d rfl) ?_
        refine rbyte_ok hr7.drew fun w8 hr8 hc8 => ?_
        have q' : rRaw (allO os i) (allO os j).length 0 1 = ([UInt8.ofNat m], (allO os j).length + 1, 0) := q
        rw [q'] at hr8 ⊢
        refine ⟨cell (o := 1) (hb7d.chg hc8 (by show ¬ cb = br; omega)) rfl, ?_⟩
        refine iteB_neg (by rw [wrap_u8_nat]; simp) ?_
        refine rerr_ok hr8 ?_
        exact iteB_neg (by simp) (step w8 _ hr8 (by rw [hs1]; rfl) (fr hc7d hc8) (chgO br h57d hc8))
      have h1 := nkind h1
      have num : o0 = 2 ∨ o0 = 6 → encO (o0, (m : Int), xs, o3, o4, ()) = encU m := fun hu => by unfold encO; rw [if_neg h1, if_pos hu]; rfl
      refine iteB_intro (fun h2 => ?_) (fun h2 => ?_)
      · rw [num (.inl (kind h2))] at hdrop hs1
        have q := back_upto (most := 18446744073709551615) (show m < 18446744073709551616 by omega) (by omega) hdrop
        refine ldI_of (cell (o := 1) hb7d rfl) ?_
        refine ruintN_ok hr7.drew fun w8 hr8 hc8 => ?_
        simp only [q] at hr8 ⊢
        refine ⟨cell (o := 1) (hb7d.chg hc8 (by show ¬ cb = br; omega)) rfl, ?_⟩
        refine iteB_neg (by simp) ?_
        refine rerr_ok hr8 ?_
        exact iteB_neg (by simp) (step w8 _ hr8 hs1.symm (fr hc7d hc8) (chgO br h57d hc8))
      have h2 := nkind h2
      refine iteB_intro (fun h6 => ?_) (fun h6 => ?_)
      · rw [num (.inr (kind h6))] at hdrop hs1
        have q := back_upto (most := m) (show m < 18446744073709551616 by omega) (by omega) hdrop
        refine ldI_of (cell (o := 1) hb7d rfl) ?_
        refine ldI_of (cell (o := 1) hb7d rfl) ?_
        refine rupto_ok hr7.drew fun w8 hr8 hc8 => ?_
        simp only [q] at hr8 ⊢
        refine ⟨cell (o := 1) (hb7d.chg hc8 (by show ¬ cb = br; omega)) rfl, ?_⟩
        refine iteB_neg (by simp) ?_
        refine rerr_ok hr8 ?_
        exact iteB_neg (by simp) (step w8 _ hr8 hs1.symm (fr hc7d hc8) (chgO br h57d hc8))
      have h6 := nkind h6
      refine iteB_intro (fun h3 => ?_) (fun h3 => ?_)
      · have e : encO (o0, (m : Int), xs, o3, o4, ()) = encU (zig (IntKind.i64.wrap (m : Int))) := by unfold encO; rw [if_neg h1, if_neg (by simp only; omega), if_pos (kind h3)]
        rw [e] at hdrop hs1
        have hz := zig_lt (wrap_i64_in (m : Int))
        have q := back_upto (most := 18446744073709551615) hz (by omega) hdrop
        refine ldI_of (cell (o := 1) hb7d rfl) ?_
        refine rint_ok hr7.drew fun w8 hr8 hc8 => ?_
        simp only [q, unz_zig] at hr8 ⊢
        refine ⟨cell (o := 1) (hb7d.chg hc8 (by show ¬ cb = br; omega)) rfl, ?_⟩
        refine iteB_neg (by simp) ?_
        refine rerr_ok hr8 ?_
        exact iteB_neg (by simp) (step w8 _ hr8 hs1.symm (fr hc7d hc8) (chgO br h57d hc8))
      have h3 := nkind h3
      have hsl := hx7.len
      simp only [U8_length] at hsl
      refine iteB_intro (fun h4 => ?_) (fun h4 => ?_)
      · have e : encO (o0, (m : Int), xs, o3, o4, ()) = encU xs.length ++ xs := by unfold encO; rw [if_neg h1, if_neg (by simp only; omega), if_neg h3, if_pos (kind h4)]
        rw [e] at hdrop hs1
        have q := back_bytes (show xs.length < 18446744073709551616 by omega) hr7.le hdrop
        refine ldS_of (cell (o := 2) hb7d rfl) ?_
        refine ldS_of (cell (o := 2) hb7d rfl) ?_
        refine rbytes_ok hr7.drew (by omega) fun l8 w8 hr8 ho8 hc8 hn8 _ _ => ?_
        rw [hsl] at hr8 ho8
        rw [q] at hr8 ho8
        refine ⟨cell (o := 2) (hb7d.chg hc8 (by show ¬ cb = br; omega)) rfl, ?_⟩
        refine same_ok (xs := xs) ho8.rd (hop0.rd.chg (fr hc7d hc8) fun _ _ h => h) (by omega) fun w9 hd9 => ?_
        refine iteB_neg (by simp) ?_
        refine rerr_ok (hr8.nil (hd9.chg Nil)) ?_
        exact iteB_neg (by simp) (step w9 _ (hr8.nil (hd9.chg Nil)) hs1.symm (chgNN (fr hc7d hc8) (hd9.chg Nil)) (chgN br (chgO br h57d hc8) (hd9.chg Nil)))
      have h4 := nkind h4
      refine iteB_intro (fun h5 => ?_) (fun h5 => ?_)
      · have e : encO (o0, (m : Int), xs, o3, o4, ()) = xs := by unfold encO; rw [if_neg h1, if_neg (by simp only; omega), if_neg h3, if_neg h4, if_pos (kind h5)]
        rw [e] at hdrop hs1
        have q := back_raw hr7.le hdrop
        refine ldS_of (cell (o := 2) hb7d rfl) ?_
        refine ldS_of (cell (o := 2) hb7d rfl) ?_
        refine rraw_ok hr7.drew (by omega) fun l8 w8 hr8 ho8 hc8 hn8 _ _ => ?_
        rw [hsl] at hr8 ho8
        rw [q] at hr8 ho8
        refine ⟨cell (o := 2) (hb7d.chg hc8 (by show ¬ cb = br; omega)) rfl, ?_⟩
        refine same_ok (xs := xs) ho8.rd (hop0.rd.chg (fr hc7d hc8) fun _ _ h => h) (by omega) fun w9 hd9 => ?_
        refine iteB_neg (by simp) ?_
        refine rerr_ok (hr8.nil (hd9.chg Nil)) ?_
        exact iteB_neg (by simp) (step w9 _ (hr8.nil (hd9.chg Nil)) hs1.symm (chgNN (fr hc7d hc8) (hd9.chg Nil)) (chgN br (chgO br h57d hc8) (hd9.chg Nil)))
      have h5 := nkind h5
      have e : encO (o0, (m : Int), xs, o3, o4, ()) = [] := by unfold encO; rw [if_neg h1, if_neg (by simp only; omega), if_neg h3, if_neg h4, if_neg h5]
      rw [e] at hs1
      refine rerr_ok hr7 ?_
      exact iteB_neg (by simp) (step w7 _ hr7 (by rw [hs1]; rfl) hc7' h57)
    · have hge : j = i := by simp [hxl] at h; omega
      subst hge
      have hl4' : l.l = (allO os j).length := hl4
      refine rend_ok hr6 fun w7 hd7 => ?_
      have e0 : rEnd (allO os j) (allO os j).length 0 = 0 := by unfold rEnd; rw [if_pos rfl, if_neg (by omega)]
      rw [e0]
      have hr7 := hr6.nil (hd7.chg Nil)
      refine iteB_neg (by simp) ?_
      refine rat_ok hr7 ?_
      refine iteB_neg (by rw [hl4']; simp) ?_
      refine rleft_ok hr7 fun w8 hd8 => ?_
      refine iteB_neg (by simp) ?_
      have hc8 := chgNN (chgNN hc6 (hd7.chg Nil)) (hd8.chg Nil)
      have h58 : Chg (Of br) w5 w8 := chgN br (chgN br hc56 (hd7.chg Nil)) (hd8.chg Nil)
      have hwl := hw3.own.lt
      have hwb := hw3.blk.lt
      have hc45 := chgNN hc4 hc5
      have h34 := hc4.size
      have hw8 := (hw3.nil hc45).chg h58 (by show ¬ w1.heap.size = br; omega) fun k hk he => by have := hwl k hk; have : k = br := he; omega
      refine wlen_ok hw8 ?_
      refine iteB_neg (by rw [hl4']; simp) ?_
      refine iteB_intro (fun hz => ⟨by trivial, hc8⟩) (fun hz => ?_)
      have hpos : 0 < (allO os j).length := by rw [hl4'] at hz; simp at hz; exact List.length_pos_iff.2 hz
      have hl8 : Rd w8 l (U8 (allO os j)) := (ho4.rd.chg hc5 fun _ _ h => h).chg h58 fun k hk he => by have := ho4.lt k hk; have : k = br := he; omega
      refine hl8.sl (l := 0) (u := (allO os j).length - 1) rfl (by simp only [Option.getD_some]; rw [wrap_i64 (by omega)]; omega) (by omega) (by simp) fun p hp _ => ?_
      rw [U8_part, List.drop_zero, Nat.sub_zero] at hp
      refine read_ok hp (by simp; omega) fun bt st w9 hr9 hc9 hbt hn9 hst9 => ?_
      have hc9' := chgNN hc8 hc9
      have hbt0 : w.heap.size ≤ bt := Nat.le_trans hc8.size hbt
      have ft : ∀ {wa wb : World}, Chg Nil w wa → Chg (Of bt) wa wb → Chg Nil w wb := fun h k => h.step k fun i hi he => by subst he; omega
      refine loopP_inv (fun st' wx => ∃ (i : Nat) (at_ : Nat) (e : Int), st'.1 = (i : Int) ∧ i ≤ j ∧ Rr wx bt st ((allO os j).take ((allO os j).length - 1)) at_ e ∧ Chg Nil w wx ∧ (e = 0 → at_ = (allO os i).length)) (fun st _ => j - st.1.toNat)
        ⟨0, 0, 0, rfl, Nat.zero_le _, hr9, hc9', fun _ => rfl⟩ ?_
      rintro ⟨i0, u⟩ wx next3 ⟨i, at_, e, rfl, hi, hrx, hcx, hat⟩ hnext3
      simp only
      refine iteB_intro (fun h => ?_) (fun h => ?_)
      · have hlt : i < j := by simp [hxl] at h; omega
        have hlt' : i < List.length (α := OpM) os := by omega
        have hbi := hbl i hlt'
        obtain ⟨r, hr⟩ := allO_cut os hlt'
        rw [← hall] at hr
        have hsucc := allO_succ os hlt'
        have hdrop : e = 0 → ((allO os j).take ((allO os j).length - 1)).drop at_ = (encO os[i] ++ r).take ((allO os j).length - 1 - at_) := fun he => by
          rw [List.drop_take, hat he]
          congr 1
          rw [hr, List.drop_left]
        refine op_at k1 (Chg.refl _ _) hlt' fun ad s hop0 => ?_
        have hop := hop0.chg hcx
        refine ldI_of hop.c0 ?_
        refine ldI_of hop.c1 ?_
        refine ldS_of hop.c2 ?_
        refine ldI_of hop.c3 ?_
        refine ldB_of hop.c4 ?_
        have g0 := wf_i64 hop.w0
        have g1 := wf_u64 hop.w1
        have g3 := wf_i64 hop.w3
        have ei : IntKind.i64.wrap ((i : Int) + 1) = ((i + 1 : Nat) : Int) := by rw [wrap_i64 (by omega)]; omega
        rw [ei]
        have hs1 : (allO os (i + 1)).length = (allO os i).length + (encO os[i]).length := by rw [hsucc, List.length_append]
        have step : ∀ w' at2 e2, Rr w' bt st ((allO os j).take ((allO os j).length - 1)) at2 e2 → (e2 = 0 → at2 = (allO os (i + 1)).length) → Chg Nil w w' → next3 (((i + 1 : Nat) : Int), ()) w' := fun w' at2 e2 h1 h2 h3 =>
          hnext3 _ _ ⟨i + 1, at2, e2, rfl, hlt, h1, h3, h2⟩ (by simp; omega)
        clear hsucc
        generalize (os[i] : OpM) = o at *
        obtain ⟨o0, o1, xs, o3, o4, ⟨⟩⟩ := o
        simp only at hop hop0 g0 g1 g3 hbi
        refine op_copy fun cb w7 hb7 hc7 hcb => ?_
        have hc7' := chgNN hcx hc7
        have hr7 := hrx.nil hc7
        have cell : ∀ {w' : World} {o : Nat} {v : Value}, Blk w' cb #[.int .i64 o0, .int .u64 o1, .slice s.a s.l s.c, .int .i64 o3, .bool o4] 34 → (#[.int .i64 o0, .int .u64 o1, .slice s.a s.l s.c, .int .i64 o3, .bool o4] : Array Value)[o]? = some v → w'.cell? ((⟨cb, 0, none⟩ : Addr).add o) = some v := fun hb hv => by rw [add_mk, Nat.zero_add, hb.cell]; exact hv
        refine ldI_of (cell (o := 0) hb7 rfl) ?_
        have kind : ∀ {k : Int}, (o0 == k) = true → o0 = k := fun h => by simpa using h
        have nkind : ∀ {k : Int}, (o0 == k) = false → o0 ≠ k := fun h => by simpa using h
        obtain ⟨m, rfl⟩ : ∃ m : Nat, o1 = (m : Int) := ⟨o1.toNat, by omega⟩
        have hx7 : Rd w7 s (U8 xs) := hop0.rd.chg hc7' fun _ _ h => h
        have hsl := hx7.len
        simp only [U8_length] at hsl
        have err0 : ∀ {at2 : Nat} {e2 : Int} {n : Nat}, (e2 = 0 → e = 0) → (e2 = 0 → at2 = at_ + n) → n = (encO (o0, (m : Int), xs, o3, o4, ())).length → e2 = 0 → at2 = (allO os (i + 1)).length := fun h1 h2 h3 h4 => by
          rw [h2 h4, hat (h1 h4), hs1, h3]
        have eU : ∀ most, (rUpto ((allO os j).take ((allO os j).length - 1)) at_ e most).2.2 = 0 → e = 0 := fun most h => by
          by_cases he : e = 0
          · exact he
          · unfold rUpto at h; rw [if_pos he] at h; exact h
        have eR : ∀ n, (rRaw ((allO os j).take ((allO os j).length - 1)) at_ e n).2.2 = 0 → e = 0 := fun n h => by
          by_cases he : e = 0
          · exact he
          · unfold rRaw at h; rw [if_pos he] at h; exact h
        have eB : ∀ n, (rBytes ((allO os j).take ((allO os j).length - 1)) at_ e n).2.2 = 0 → e = 0 := fun n h => by
          by_cases he : e = 0
          · exact he
          · unfold rBytes at h; rw [if_pos he] at h; exact h
        refine iteB_intro (fun h1 => ?_) (fun h1 => ?_)
        · have h1 := kind h1
          have ee : encO (o0, (m : Int), xs, o3, o4, ()) = [UInt8.ofNat m] := by unfold encO; rw [if_pos h1]; rfl
          refine rbyte_ok hr7 fun w8 hr8 hc8 => ?_
          exact step w8 _ _ hr8 (err0 (n := 1) (eR 1) (fun h => cut_raw (n := 1) h) (by rw [ee]; rfl)) (ft hc7' hc8)
        have h1 := nkind h1
        have num : o0 = 2 ∨ o0 = 6 → encO (o0, (m : Int), xs, o3, o4, ()) = encU m := fun hu => by unfold encO; rw [if_neg h1, if_pos hu]; rfl
        have uint : o0 = 2 ∨ o0 = 6 → c_codec_Reader_Uint (some ⟨bt, 0, none⟩) w7 fun r111 w112 => next3 (((i + 1 : Nat) : Int), ()) w112 := fun hu => by
          refine ruintN_ok hr7 fun w8 hr8 hc8 => ?_
          exact step w8 _ _ hr8 (err0 (eU _) (fun h => cut_upto (n := m) (r := r) (j := (allO os j).length - 1 - at_) (by omega) (by have := hdrop (eU _ h); rwa [num hu] at this) h) (by rw [num hu])) (ft hc7' hc8)
        refine iteB_intro (fun h2 => ?_) (fun h2 => ?_)
        · exact iteB_pos h2 (uint (.inl (kind h2)))
        have h2 := nkind h2
        refine iteB_intro (fun h6 => uint (.inr (kind h6))) (fun h6 => ?_)
        have h6 := nkind h6
        refine iteB_intro (fun h3 => ?_) (fun h3 => ?_)
        · have ee : encO (o0, (m : Int), xs, o3, o4, ()) = encU (zig (IntKind.i64.wrap (m : Int))) := by unfold encO; rw [if_neg h1, if_neg (by simp only; omega), if_pos (kind h3)]
          refine rint_ok hr7 fun w8 hr8 hc8 => ?_
          exact step w8 _ _ hr8 (err0 (eU _) (fun h => cut_upto (n := zig (IntKind.i64.wrap (m : Int))) (r := r) (j := (allO os j).length - 1 - at_) (zig_lt (wrap_i64_in _)) (by have := hdrop (eU _ h); rwa [ee] at this) h) (by rw [ee])) (ft hc7' hc8)
        have h3 := nkind h3
        refine iteB_intro (fun h4 => ?_) (fun h4 => ?_)
        · have ee : encO (o0, (m : Int), xs, o3, o4, ()) = encU xs.length ++ xs := by unfold encO; rw [if_neg h1, if_neg (by simp only; omega), if_neg h3, if_pos (kind h4)]
          refine ldS_of (cell (o := 2) hb7 rfl) ?_
          refine rbytes_ok hr7 (by omega) fun l8 w8 hr8 ho8 hc8 hn8 _ _ => ?_
          rw [hsl] at hr8
          exact step w8 _ _ hr8 (err0 (eB _) (fun h => cut_bytes (b := xs) (r := r) (j := (allO os j).length - 1 - at_) (by omega) (by have := hdrop (eB _ h); rwa [ee] at this) h) (by rw [ee])) (ft hc7' hc8)
        have h4 := nkind h4
        refine iteB_intro (fun h5 => ?_) (fun h5 => ?_)
        · have ee : encO (o0, (m : Int), xs, o3, o4, ()) = xs := by unfold encO; rw [if_neg h1, if_neg (by simp only; omega), if_neg h3, if_neg h4, if_pos (kind h5)]
          refine ldS_of (cell (o := 2) hb7 rfl) ?_
          refine rraw_ok hr7 (by omega) fun l8 w8 hr8 ho8 hc8 hn8 _ _ => ?_
          rw [hsl] at hr8
          exact step w8 _ _ hr8 (err0 (n := xs.length) (eR _) (fun h => cut_raw h) (by rw [ee])) (ft hc7' hc8)
        have h5 := nkind h5
        have ee : encO (o0, (m : Int), xs, o3, o4, ()) = [] := by unfold encO; rw [if_neg h1, if_neg (by simp only; omega), if_neg h3, if_neg h4, if_neg h5]
        exact step w7 _ _ hr7 (err0 (n := 0) (fun h => h) (fun _ => rfl) (by rw [ee]; rfl)) hc7'
      · have hge : i = j := by simp [hxl] at h; omega
        subst hge
        refine rend_ok hrx fun wy hdy => ?_
        have hle := hrx.le
        simp only [List.length_take] at hle
        have hne : e ≠ 0 := fun he => by have := hat he; omega
        refine ⟨?_, chgNN hcx (hdy.chg Nil)⟩
        unfold rEnd
        rw [if_neg hne]
        simpa using hne
end Go.Proofs.Ytmadhcoeiclalaa
