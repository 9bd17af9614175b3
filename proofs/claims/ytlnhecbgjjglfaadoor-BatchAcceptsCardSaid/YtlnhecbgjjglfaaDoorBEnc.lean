/- BEnc: a batch as bytes. -/
import Derived.Test.YtlnhecbgjjglfaaDoorKeyB
import Derived.Test.YtlnhecbgjjglfaaDoorFr2
import Derived.Test.YtlnhecbgjjglfaaDoorBChk
set_option linter.unusedVariables false
set_option linter.unusedSimpArgs false
namespace Go.Pl
open Go Go.Sh Go.RowKit Go.Num
def setB (l : List Ky) : List UInt8 := encU l.length ++ l.flatMap kB
def argsB (l : List Int) : List UInt8 := l.flatMap fun a => encU (zig a)
def txB (x : Txm) : List UInt8 := encU x.proc.toNat ++ (encU x.args.length ++ (argsB x.args ++ (setB x.reads ++ setB x.writes)))
def batB (xs : List Txm) : List UInt8 := encU xs.length ++ xs.flatMap txB
def encT (xs : List Txm) : List UInt8 × Int := if (chkT formT xs).2 = 0 then (batB xs, 0) else ([], (chkT formT xs).2)
def I64s (l : List Int) : Prop := ∀ a ∈ l, -9223372036854775808 ≤ a ∧ a ≤ 9223372036854775807
structure Frm (x : Txm) : Prop where
  p0 : 0 ≤ x.proc
  p1 : x.proc < 64
  a : x.args.length ≤ 16
  r : x.reads.length ≤ 16
  w : x.writes.length ≤ 16
  rr : rises x.reads = true
  rw_ : rises x.writes = true
theorem frm_of {x : Txm} (h : formT x = 0) : Frm x := by
  unfold formT at h
  repeat' split at h <;> try omega
  rename_i h1 h2 h3 h4 h5
  exact ⟨by omega, by omega, by omega, by omega, by omega, h5.1, h5.2⟩
theorem of_frm {x : Txm} (h : Frm x) : formT x = 0 := by
  obtain ⟨h1, h2, h3, h4, h5, h6, h7⟩ := h
  unfold formT
  rw [if_neg (by omega), if_neg (by omega), if_neg (by omega), if_neg (by omega), if_pos ⟨h6, h7⟩]
theorem rises_ok_at {l : List Ky} (h : rises l = true) : ∀ k ∈ l, kOk k = true := by
  intro k hk
  obtain ⟨i, hi, rfl⟩ := List.getElem_of_mem hk
  have := (of_decide_eq_true h) i hi
  rw [← kAt_lt hi]; exact this.1
theorem firstT_zero {g : Txm → Int} : ∀ {xs : List Txm} {i : Nat}, (firstT g xs i).2 = 0 → ∀ x ∈ xs, g x = 0
  | [], _, _ => by simp
  | x :: r, i, h => by
    unfold firstT at h
    split at h
    · rename_i hx; exact absurd h hx
    · rename_i hx
      intro y hy
      rcases List.mem_cons.1 hy with rfl | hy
      · omega
      · exact firstT_zero h y hy
theorem firstT_all {g : Txm → Int} : ∀ {xs : List Txm} {i : Nat}, (∀ x ∈ xs, g x = 0) → firstT g xs i = (0, 0)
  | [], _, _ => rfl
  | x :: r, i, h => by
    unfold firstT
    rw [if_neg (by rw [h x (List.mem_cons_self ..)]; simp)]
    exact firstT_all fun y hy => h y (List.mem_cons_of_mem _ hy)
theorem chk_zero {xs : List Txm} (h : (chkT formT xs).2 = 0) : xs.length ≤ 64 ∧ ∀ x ∈ xs, Frm x := by
  unfold chkT at h
  split at h
  · cases h
  · exact ⟨by omega, fun x hx => frm_of (firstT_zero h x hx)⟩
theorem chk_of {xs : List Txm} (h : xs.length ≤ 64) (h' : ∀ x ∈ xs, Frm x) : chkT formT xs = (0, 0) := by
  unfold chkT
  rw [if_neg (by omega)]
  exact firstT_all fun x hx => of_frm (h' x hx)
theorem kBs_len (l : List Ky) : (l.flatMap kB).length = 10 * l.length := by
  induction l with
  | nil => rfl
  | cons k l ih => rw [List.flatMap_cons, List.length_append, ih, kB_length, List.length_cons]; omega
theorem setB_len {l : List Ky} (h : l.length ≤ 16) : (setB l).length ≤ 170 := by
  have := encU_ten l.length (by omega)
  unfold setB
  rw [List.length_append, kBs_len]; omega
theorem argsB_len {l : List Int} (h : I64s l) : (argsB l).length ≤ 10 * l.length := by
  induction l with
  | nil => exact Nat.le_refl _
  | cons a l ih =>
    have := ih fun b hb => h b (List.mem_cons_of_mem _ hb)
    have h2 := encU_ten (zig a) (zig_lt (h a (List.mem_cons_self ..)))
    unfold argsB at *
    rw [List.flatMap_cons, List.length_append, List.length_cons]; omega
theorem txB_len {x : Txm} (h : Frm x) (h64 : I64s x.args) : (txB x).length ≤ 520 := by
  have h1 := encU_ten x.proc.toNat (by have := h.p1; omega)
  have h2 := encU_ten x.args.length (by have := h.a; omega)
  have h3 := argsB_len h64
  have h4 := setB_len h.r
  have h5 := setB_len h.w
  have h6 := h.a
  unfold txB
  simp only [List.length_append]; omega
theorem txsB_len : ∀ {xs : List Txm}, (∀ x ∈ xs, Frm x ∧ I64s x.args) → (xs.flatMap txB).length ≤ 520 * xs.length
  | [], _ => by simp
  | x :: r, h => by
    have h1 := txB_len (h x (List.mem_cons_self ..)).1 (h x (List.mem_cons_self ..)).2
    have h2 := txsB_len (xs := r) fun y hy => h y (List.mem_cons_of_mem _ hy)
    rw [List.flatMap_cons, List.length_append, List.length_cons]; omega
theorem flatMap_take_succ {α β : Type} (f : α → List β) {l : List α} {i : Nat} (h : i < l.length) : (l.take (i + 1)).flatMap f = (l.take i).flatMap f ++ f l[i] := by
  rw [List.take_succ_eq_append_getElem h, List.flatMap_append]; simp
end Go.Pl
namespace Go.Proofs.YtlnhecbgjjglfaaDoor
open Go Go.Sh Go.Pl Go.RowKit Go.Num
/-- Bytes that are being made, in new memory. -/
structure OB (w0 w : World) (s : Slc) (bs : List UInt8) : Prop where
  own : Own w 5 1 s (U8 bs)
  ch : Ch [] w0 w
  ge : Ge w0.heap.size (blkOf s)
theorem OB.ch0 {w0 w w' : World} {s : Slc} {bs : List UInt8} (h : OB w0 w s bs) (hc : Ch [] w w') : OB w0 w' s bs := ⟨h.own.ch0 hc, h.ch.tr hc, h.ge⟩
theorem OB.app {w0 w : World} {s x : Slc} {bs xs : List UInt8} {K : Slc → World → Prop} (h : OB w0 w s bs) (hx : Rd w x (U8 xs)) (hxn : x.a = none → x.l = 0 ∧ x.c = 0) (hl : bs.length + xs.length ≤ 100000000)
    (hK : ∀ s' w', OB w0 w' s' (bs ++ xs) → K s' w') : apP Tryd.prog #[23, 23] 23 [.slice s.a s.l s.c, .slice x.a x.l x.c] w K := by
  have l1 := U8_own h.own
  have l2 := hx.len
  rw [U8_length] at l2
  refine apO TU8 h.own hx hxn (U8_one _) (by omega) (by omega) fun s' w' ho hl' hg => ?_
  obtain ⟨hc, hf⟩ := hg.ch
  have z := h.ch.size
  refine hK s' w' ⟨by rw [U8_append]; exact ho, h.ch.trO hc h.ge, fun k hk => ?_⟩
  rcases hf k hk with g | g
  · exact h.ge k g
  · omega
end Go.Proofs.YtlnhecbgjjglfaaDoor
