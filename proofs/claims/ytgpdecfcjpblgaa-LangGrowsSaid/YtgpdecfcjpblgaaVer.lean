/- Ver: the law LangVerifies. -/
import Derived.Test.YtgpdecfcjpblgaaLong
import Derived.Test.YtgpdecfcjpblgaaKeep
import Derived.Test.YtgpdecfcjpblgaaPutB
set_option linter.unusedVariables false
set_option linter.unusedSimpArgs false
namespace Go.Lang
def upTo (c : Int) (n : Nat) : List Int := (List.range n).map fun k : Nat => c + (k : Int)
theorem upTo_len (c : Int) (n : Nat) : (upTo c n).length = n := by simp [upTo]
theorem upTo_succ (c : Int) (n : Nat) : upTo c (n + 1) = upTo c n ++ [c + (n : Int)] := by simp [upTo, List.range_succ]
theorem upTo_at (c : Int) {n k : Nat} (h : k < n) : (upTo c n)[k]? = some (c + (k : Int)) := by simp [upTo, h]
def downTo (n : Nat) : List Int := (List.range n).map fun k : Nat => -70 - (k : Int)
theorem downTo_len (n : Nat) : (downTo n).length = n := by simp [downTo]
theorem downTo_at {n k : Nat} (h : k < n) : (downTo n)[k]? = some (-70 - (k : Int)) := by simp [downTo, h]
theorem walkL_len {c : List Ins} : ∀ {k : Nat} {d d' : List Int} {i : Nat}, walkD c k d i = some d' → d'.length = d.length := walkD_len
theorem depths_len {a b c d : Int} {l : List Ins} : (depths a b c d l).1.length ≤ 257 := by
  unfold depths
  split
  · simp
  · rename_i h1
    have h1 : okP a b c d l.length = true := by simpa using h1
    split
    · simp
    · split
      · rename_i e he
        have := walkD_len he
        have h2 := (okP_rng h1).2.2.2.2
        simp [d0] at this
        simp only []
        omega
      · simp
end Go.Lang
namespace Go.Proofs.Ytgpdecfcjpblgaa
open Go Go.Sh Go.Pl Go.RowKit Go.Lang Go.Names Go.Gt
theorem DOut.own {n : Nat} {w : World} {s : Slc} {ds : List Int} (h : DOut n w s ds) (hl : ds.length ≤ 1000) : Own w 3 1 s (Is .i64 ds) := by
  rcases h with ⟨rfl, rfl⟩ | ⟨b, _, rfl, h⟩
  · exact Own.nil _ _ _
  · have h' : Blk w b (Is .i64 ds).toArray 3 := h
    have := Own.new h' (by simp [maxLen]; omega)
    simpa using this
theorem DOut.ch {n : Nat} {w w' : World} {s : Slc} {ds : List Int} {L : List (Option Nat)} (h : DOut n w s ds) (hc : Ch L w w') (hn : ∀ k, blkOf s = some k → ¬ inL L k) : DOut n w' s ds := by
  rcases h with h | ⟨b, h1, rfl, h3⟩
  · exact .inl h
  · exact .inr ⟨b, h1, rfl, h3.ch hc (hn b rfl)⟩
theorem DOut.len {n : Nat} {w : World} {s : Slc} {ds : List Int} (h : DOut n w s ds) : s.l = ds.length := by
  rcases h with ⟨rfl, rfl⟩ | ⟨b, h1, rfl, h3⟩ <;> rfl
theorem DOut.set {n : Nat} {w : World} {s : Slc} {ds : List Int} {i v : Int} {K : World → Prop} (h : DOut n w s ds) (h0 : 0 ≤ i) (h1 : i.toNat < ds.length)
    (hK : ∀ w', Ch [blkOf s] w w' → DOut n w' s (ds.set i.toNat v) → K w') : idxP s.a s.l i 1 fun a => stP a (.int .i64 v) w K := by
  rcases h with ⟨rfl, rfl⟩ | ⟨b, h2, rfl, h3⟩
  · simp at h1
  · exact h3.set rfl h0 h1 fun w' hc hr _ => hK w' hc (.inr ⟨b, h2, by simp, hr⟩)
/-- Two lists that grow, and what they grew from. -/
structure TG (w0 w : World) (p q x y : Slc) (A D : List Int) (n : Nat) : Prop where
  ox : Own w 3 1 x (Is .i64 (A ++ upTo 1000 n))
  oy : Own w 3 1 y (Is .i64 (D ++ upTo 2000 n))
  ra : Rd w p (Is .i64 A)
  rb : Rd w q (Is .i64 D)
  ax : x.a = p.a ∨ Ge w0.heap.size (blkOf x)
  ay : y.a = q.a ∨ Ge w0.heap.size (blkOf y)
  dab : Dj (blkOf p) (blkOf q)
  la : Lt w0.heap.size (blkOf p)
  lb : Lt w0.heap.size (blkOf q)
  dxy : Dj (blkOf x) (blkOf y)
  ch : Ch [blkOf p, blkOf q] w0 w
theorem TG.dyp {w0 w : World} {p q x y : Slc} {A D : List Int} {n : Nat} (h : TG w0 w p q x y A D n) : Dj (blkOf y) (blkOf p) := fun k h1 h2 => by
  rcases h.ay with h3 | h3
  · exact h.dab k h2 (by unfold blkOf at h1 ⊢; rw [← h3]; exact h1)
  · have := h3 k h1; have := h.la k h2; omega
theorem TG.dxq {w0 w : World} {p q x y : Slc} {A D : List Int} {n : Nat} (h : TG w0 w p q x y A D n) : Dj (blkOf x) (blkOf q) := fun k h1 h2 => by
  rcases h.ax with h3 | h3
  · exact h.dab k (by unfold blkOf at h1 ⊢; rw [← h3]; exact h1) h2
  · have := h3 k h1; have := h.lb k h2; omega
set_option maxHeartbeats 1000000 in
theorem TG.step {w0 w : World} {p q x y : Slc} {A D : List Int} {n : Nat} {K : Slc → Slc → World → Prop} (h : TG w0 w p q x y A D n) (hA : A.length ≤ 1000) (hD : D.length ≤ 1000) (hn : n < 40)
    (hK : ∀ x' y' w', TG w0 w' p q x' y' A D (n + 1) → K x' y' w') :
    newP #[.int .i64 (1000 + (n : Int))] 3 w fun a97 w98 => apP Try.prog #[55, 55] 55 [.slice x.a x.l x.c, .slice (some a97) 1 1] w98 fun s100 w99 => newP #[.int .i64 (2000 + (n : Int))] 3 w99 fun a101 w102 => apP Try.prog #[55, 55] 55 [.slice y.a y.l y.c, .slice (some a101) 1 1] w102 fun s104 w103 => K s100 s104 w103 := by
  have lx : x.l = A.length + n := by have := h.ox.rd.len; simpa [upTo_len] using this
  have ly : y.l = D.length + n := by have := h.oy.rd.len; simpa [upTo_len] using this
  have lp := h.ra.len
  have lq := h.rb.len
  simp only [Is_length] at lp lq
  refine apB_keep TI64 rfl (by simp [Value.oneCell']) h.ox (by omega) (by omega) fun x' w1 ho1 hl1 hg1 hk1 ha1 => ?_
  have hz := h.ch.size
  have hy0 := h.oy.ltS
  have hc1 := hg1.ch.1
  have hf1 := hg1.ch.2
  have noty : ∀ k, blkOf y = some k → ¬ inL [blkOf x] k := fun k hk hin => h.dxy k (show some k = blkOf x from hin).symm hk
  have notq : ∀ k, blkOf q = some k → ¬ inL [blkOf x] k := fun k hk hin => h.dxq k (show some k = blkOf x from hin).symm hk
  have t1 : TG w0 w1 p q x' y (A) D n ∨ True := .inr trivial
  have oy1 := h.oy.ch hc1 noty
  have rb1 := h.rb.ch hc1 notq
  have ra1 : Rd w1 p (Is .i64 A) := by
    rcases h.ax with h3 | h3
    · exact h.ra.kept h3.symm (by simp; omega) hk1
    · exact h.ra.ch hc1 fun k hk hin => by
        have := h3 k (show some k = blkOf x from hin).symm
        have := h.la k hk; omega
  have ax1 : x'.a = p.a ∨ Ge w0.heap.size (blkOf x') := by
    rcases ha1 with h4 | h4
    · rcases h.ax with h3 | h3
      · exact .inl (h4.trans h3)
      · right
        have : blkOf x' = blkOf x := by unfold blkOf; rw [h4]
        rw [this]; exact h3
    · exact .inr fun k hk => by have := h4 k hk; omega
  have dxy1 : Dj (blkOf x') (blkOf y) := fun k h1 h2 => by
    rcases hf1 k h1 with h3 | h3
    · exact h.dxy k h3 h2
    · have := hy0 k h2; omega
  have ch1 : Ch [blkOf p, blkOf q] w0 w1 := h.ch.trans hc1 fun i hi hin => by
    have hin : some i = blkOf x := hin
    rcases h.ax with h3 | h3
    · left; unfold blkOf at hin ⊢; rw [← h3]; exact hin
    · have := h3 i hin.symm; omega
  have dyp := h.dyp
  have la := h.la
  have hx1 := ho1.ltS
  refine apB_keep TI64 rfl (by simp [Value.oneCell']) oy1 (by omega) (by omega) fun y' w2 ho2 hl2 hg2 hk2 ha2 => ?_
  have hc2 := hg2.ch.1
  have hf2 := hg2.ch.2
  have notx : ∀ k, blkOf x' = some k → ¬ inL [blkOf y] k := fun k hk hin => dxy1 k hk (show some k = blkOf y from hin).symm
  have notp : ∀ k, blkOf p = some k → ¬ inL [blkOf y] k := fun k hk hin => dyp k (show some k = blkOf y from hin).symm hk
  refine hK x' y' w2 ⟨?_, ?_, ra1.ch hc2 notp, ?_, ax1, ?_, h.dab, h.la, h.lb, ?_, ?_⟩
  · rw [upTo_succ, ← List.append_assoc]
    have := ho1.ch hc2 notx
    simpa [Is] using this
  · rw [upTo_succ, ← List.append_assoc]
    simpa [Is] using ho2
  · rcases h.ay with h3 | h3
    · exact rb1.kept h3.symm (by simp; omega) hk2
    · exact rb1.ch hc2 fun k hk hin => by
        have := h3 k (show some k = blkOf y from hin).symm
        have := h.lb k hk; omega
  · rcases ha2 with h4 | h4
    · rcases h.ay with h3 | h3
      · exact .inl (h4.trans h3)
      · right
        have : blkOf y' = blkOf y := by unfold blkOf; rw [h4]
        rw [this]; exact h3
    · exact .inr fun k hk => by have := h4 k hk; have := ch1.size; omega
  · intro k h1 h2
    rcases hf2 k h2 with h3 | h3
    · exact dxy1 k h1 h3
    · have := hx1 k h1; omega
  · exact ch1.trans hc2 fun i hi hin => by
      have hin : some i = blkOf y := hin
      rcases h.ay with h3 | h3
      · right; unfold blkOf at hin ⊢; rw [← h3]; exact hin
      · have := h3 i hin.symm; omega
theorem rdIE {L : List (Option Nat)} {w w' : World} {r : Slc} {k : IntKind} {D : List Int} (h : Rd w r (Is k D)) (hc : Ch L w w') (hn : D ≠ [] → ∀ k, blkOf r = some k → ¬ inL L k) : Rd w' r (Is k D) := by
  cases D with
  | nil => exact ⟨h.len, h.cap, fun i hi => by simp at hi⟩
  | cons x l => exact h.ch hc (hn (by simp))
set_option maxRecDepth 20000 in
set_option maxHeartbeats 1000000 in
theorem ver_tail {w0 w : World} {p q r : Slc} {D : List Int} {K : World → Prop} (hp : DOut w0.heap.size w p D) (hq : DOut w0.heap.size w q D) (hr : Rd w r (Is .i64 D)) (hpl : D.length ≤ 257)
    (dpq : Dj (blkOf p) (blkOf q)) (dpr : D ≠ [] → Dj (blkOf p) (blkOf r)) (dqr : D ≠ [] → Dj (blkOf q) (blkOf r)) (hq0 : Lt w.heap.size (blkOf q)) (hp0 : Lt w.heap.size (blkOf p))
    (hK : ∀ w', Ch [blkOf p, blkOf q] w w' → K w') {bad : World → Prop} :
    loopP (σ := Int × Unit) (fun st86 next85 w87 => (fun (x88 : Int) => iteB (decide ((x88 : Int) < (p.l : Int)))
  (idxP p.a p.l x88 1 fun a89 => stP a89 (.int .i64 (IntKind.i64.wrap ((-70) - x88))) w87 fun w90 => next85 ((IntKind.i64.wrap (x88 + 1)), ()) w90)
  (loopP (σ := Slc × Slc × Int × Unit) (fun st92 next91 w93 => (fun (x94 : Slc) (x95 : Slc) (x96 : Int) => iteB (decide ((x96 : Int) < 40))
  (newP #[.int .i64 (IntKind.i64.wrap (1000 + x96))] 3 w93 fun a97 w98 => apP Try.prog #[55, 55] 55 [.slice x94.a x94.l x94.c, .slice (some a97) 1 1] w98 fun s100 w99 => newP #[.int .i64 (IntKind.i64.wrap (2000 + x96))] 3 w99 fun a101 w102 => apP Try.prog #[55, 55] 55 [.slice x95.a x95.l x95.c, .slice (some a101) 1 1] w102 fun s104 w103 => next91 (s100, s104, (IntKind.i64.wrap (x96 + 1)), ()) w103)
  (loopP (σ := Int × Unit) (fun st106 next105 w107 => (fun (x108 : Int) => iteB (decide ((x108 : Int) < (p.l : Int)))
  (idxP p.a p.l x108 1 fun a109 => ldI .i64 a109 w107.drew fun n110 => iteB ((n110 : Int) != (IntKind.i64.wrap ((-70) - x108)))
  (bad w107.drew)
  (idxP x94.a x94.l x108 1 fun a111 => ldI .i64 a111 w107.drew fun n112 => iteB ((n112 : Int) != (IntKind.i64.wrap ((-70) - x108)))
  (bad w107.drew)
  (idxP q.a q.l x108 1 fun a113 => ldI .i64 a113 w107.drew fun n114 => idxP r.a r.l x108 1 fun a115 => ldI .i64 a115 w107.drew fun n116 => iteB ((n114 : Int) != n116)
  (bad w107.drew)
  (idxP x95.a x95.l x108 1 fun a117 => ldI .i64 a117 w107.drew fun n118 => idxP r.a r.l x108 1 fun a119 => ldI .i64 a119 w107.drew fun n120 => iteB ((n118 : Int) != n120)
  (bad w107.drew)
  (next105 ((IntKind.i64.wrap (x108 + 1)), ()) w107.drew)))))
  (loopP (σ := Int × Unit) (fun st122 next121 w123 => (fun (x124 : Int) => iteB (decide ((x124 : Int) < 40))
  (idxP x94.a x94.l (IntKind.i64.wrap ((p.l : Int) + x124)) 1 fun a125 => ldI .i64 a125 w123 fun n126 => iteB ((n126 : Int) != (IntKind.i64.wrap (1000 + x124)))
  (bad w123)
  (idxP x95.a x95.l (IntKind.i64.wrap ((q.l : Int) + x124)) 1 fun a127 => ldI .i64 a127 w123 fun n128 => iteB ((n128 : Int) != (IntKind.i64.wrap (2000 + x124)))
  (bad w123)
  (next121 ((IntKind.i64.wrap (x124 + 1)), ()) w123)))
  (K w123)) st122.1) (0, ()) w107)) st106.1) (0, ()) w93)) st92.1 st92.2.1 st92.2.2.1) (p, q, 0, ()) w87)) st86.1) (0, ()) w := by
  have lp := hp.len
  have lq := hq.len
  have lr := hr.len
  simp only [Is_length] at lr
  have eset : ∀ i, i < D.length → ((downTo i ++ D.drop i).set i (-70 - (i : Int))) = downTo (i + 1) ++ D.drop (i + 1) := fun i hi => by
    rw [List.set_append, if_neg (by simp [downTo_len]), downTo_len, Nat.sub_self, List.drop_eq_getElem_cons hi, List.set_cons_zero]
    simp only [downTo, List.range_succ, List.map_append, List.map_cons, List.map_nil, List.append_assoc, List.singleton_append]
  refine loopP_inv (fun st w1 => ∃ i : Nat, st.1 = (i : Int) ∧ i ≤ D.length ∧ Ch [blkOf p] w w1 ∧ DOut w0.heap.size w1 p (downTo i ++ D.drop i)) (fun st _ => D.length - st.1.toNat) ⟨0, rfl, Nat.zero_le _, Ch.refl _ _, by simpa [downTo] using hp⟩ ?_
  rintro ⟨i0, u⟩ w1 next ⟨i, rfl, hi, hc1, hp1⟩ hnext
  dsimp only
  refine iteB_intro (fun h => ?_) (fun h => ?_)
  · have hlt : i < D.length := by simp [lp] at h; omega
    rw [wrap_i64 (by omega), wrap_i64 (by omega)]
    refine hp1.set (by omega) (by simp [downTo_len]; omega) fun w2 hc2 hp2 => ?_
    rw [Int.toNat_natCast, eset i hlt] at hp2
    exact hnext _ _ ⟨i + 1, by simp, hlt, hc1.tr hc2, hp2⟩ (by simp; omega)
  have hie : i = D.length := by simp [lp] at h; omega
  subst hie
  rw [List.drop_length, List.append_nil] at hp1
  clear hnext h hp
  replace hq := hq.ch hc1 fun k hk hin => dpq k (show some k = blkOf p from hin).symm hk
  replace hr := rdIE hr hc1 fun hne k hk hin => dpr hne k (show some k = blkOf p from hin).symm hk
  have hz1 := hc1.size
  refine loopP_inv (fun st w2 => ∃ n : Nat, st.2.2.1 = (n : Int) ∧ n ≤ 40 ∧ TG w1 w2 p q st.1 st.2.1 (downTo D.length) D n) (fun st _ => 40 - st.2.2.1.toNat)
    ⟨0, rfl, by omega, ⟨by simpa [upTo] using hp1.own (by rw [downTo_len]; omega), by simpa [upTo] using hq.own (by omega), hp1.rd, hq.rd, .inl rfl, .inl rfl, dpq, fun k hk => by have := hp0 k hk; omega, fun k hk => by have := hq0 k hk; omega, dpq, Ch.refl _ _⟩⟩ ?_
  rintro ⟨x, y, n0, u⟩ w2 next ⟨n, rfl, hn, ht⟩ hnext
  dsimp only at ht ⊢
  refine iteB_intro (fun h => ?_) (fun h => ?_)
  · have hlt : n < 40 := by simp at h; omega
    rw [wrap_i64 (by omega), wrap_i64 (by omega), wrap_i64 (by omega)]
    exact ht.step (by rw [downTo_len]; omega) (by omega) hlt fun x' y' w' ht' => hnext _ _ ⟨n + 1, by simp, hlt, ht'⟩ (by simp; omega)
  have hie : n = 40 := by simp at h; omega
  subst hie
  clear hnext h
  have hr2 : Rd w2 r (Is .i64 D) := rdIE hr ht.ch fun hne k hk hin => by
    rcases (show some k = blkOf p ∨ some k = blkOf q from hin) with h | h
    · exact dpr hne k h.symm hk
    · exact dqr hne k h.symm hk
  have hrx := ht.ox.rd
  have hry := ht.oy.rd
  have hra := ht.ra
  have hrb := ht.rb
  have hcc := ht.ch
  refine loopP_inv (fun st w3 => ∃ i : Nat, st.1 = (i : Int) ∧ i ≤ D.length ∧ Ch [] w2 w3) (fun st _ => D.length - st.1.toNat) ⟨0, rfl, Nat.zero_le _, Ch.refl _ _⟩ ?_
  rintro ⟨i0, u⟩ w3 next ⟨i, rfl, hi, hc3⟩ hnext
  dsimp only
  refine iteB_intro (fun h => ?_) (fun h => ?_)
  · have hlt : i < D.length := by simp [lp] at h; omega
    have hcd := hc3.tr0 (Ch.drew w3)
    rw [wrap_i64 (by omega), wrap_i64 (by omega)]
    have ga : (downTo D.length)[Int.toNat (i : Int)]? = some (-70 - (i : Int)) := by rw [Int.toNat_natCast]; exact downTo_at hlt
    have gd : D[Int.toNat (i : Int)]? = some D[i] := by simp
    refine (hra.ch0 hcd).get (by omega) ga (iteB_neg (by simp) ?_)
    refine (hrx.ch0 hcd).get (by omega) (by rw [List.getElem?_append_left (by rw [Int.toNat_natCast, downTo_len]; exact hlt)]; exact ga) (iteB_neg (by simp) ?_)
    refine (hrb.ch0 hcd).get (by omega) gd ((hr2.ch0 hcd).get (by omega) gd (iteB_neg (by simp) ?_))
    refine (hry.ch0 hcd).get (by omega) (by rw [List.getElem?_append_left (by rw [Int.toNat_natCast]; exact hlt)]; exact gd) ((hr2.ch0 hcd).get (by omega) gd (iteB_neg (by simp) ?_))
    exact hnext _ _ ⟨i + 1, by simp, hlt, hcd⟩ (by simp; omega)
  clear hnext h
  refine loopP_inv (fun st w4 => ∃ i : Nat, st.1 = (i : Int) ∧ i ≤ 40 ∧ w4 = w3) (fun st _ => 40 - st.1.toNat) ⟨0, rfl, Nat.zero_le _, rfl⟩ ?_
  rintro ⟨j0, u⟩ w4 next ⟨j, rfl, hj, rfl⟩ hnext
  dsimp only
  refine iteB_intro (fun h => ?_) (fun h => ?_)
  · have hlt : j < 40 := by simp at h; omega
    rw [wrap_i64 (by omega), wrap_i64 (by omega), wrap_i64 (by omega), wrap_i64 (by omega), wrap_i64 (by omega)]
    refine (hrx.ch0 hc3).get (v := 1000 + (j : Int)) (by omega) (by rw [show ((p.l : Int) + (j : Int)).toNat = D.length + j by omega, List.getElem?_append_right (by rw [downTo_len]; omega), downTo_len, Nat.add_sub_cancel_left]; exact upTo_at _ hlt) (iteB_neg (by simp) ?_)
    refine (hry.ch0 hc3).get (v := 2000 + (j : Int)) (by omega) (by rw [show ((q.l : Int) + (j : Int)).toNat = D.length + j by omega, List.getElem?_append_right (by omega), Nat.add_sub_cancel_left]; exact upTo_at _ hlt) (iteB_neg (by simp) ?_)
    exact hnext _ _ ⟨j + 1, by simp, hlt, rfl⟩ (by simp; omega)
  · refine hK w4 (Ch.trans (Ch.trans (Ch.mono hc1 fun i _ h => ?_) hcc fun i _ h => h) hc3 fun i _ h => h.elim)
    exact .inl h
set_option maxRecDepth 20000 in
set_option maxHeartbeats 1000000 in
theorem law_LangVerifies {a b c d : Int} {s : Slc} {ms : Mo insG} {w : World} (w0 : (Lit.int .i64 a).wf = true) (w1 : (Lit.int .i64 b).wf = true) (w2 : (Lit.int .i64 c).wf = true) (w3 : (Lit.int .i64 d).wf = true)
    (k4 : Gt.Rep reachBytes w insG [.slice s.a s.l s.c] ms) : c_preludelaw03_LangVerifies a b c d s w fun r w' => r = true ∧ Chg Nil w w' := by
  refine sim_preludelaw03_LangVerifies ?_
  unfold sh_preludelaw03_LangVerifies
  obtain ⟨hs, h64, hsn, hsc⟩ := rep_code k4
  have hsl := hs.cap
  have ls := hs.len
  have hre : reachBytes = 140737488351232 := rfl
  generalize code ms = is at *
  have hl : is.length ≤ 8800000000000 := by omega
  refine newB fun k1 w1 hc1 hb1 hk1 hs1 => ?_
  refine ldPr (s := s) hb1 ?_
  refine roomyP_ok (hs.ch0 hc1) (fun h => (hsn h).1) hl fun cb cur w2 hr2 hc2 hcb => ?_
  replace hb1 := hb1.ch0 hc2
  replace hc2 := hc1.tr hc2
  refine newPr fun k3 w3 hc3 hb3 hk3 hs3 => ?_
  replace hb1 := hb1.ch0 hc3
  replace hr2 := hr2.ch0 hc3
  replace hc3 := hc2.tr hc3
  refine ldPr (s := s) hb1 ?_
  refine refDepths_ok (hs.ch0 hc3) hl fun sr w4 hrr hc4 hgr => ?_
  have hw3 := hc3.size
  have z4 := hc4.size
  have q1 := hb1.below
  have q2 := hr2.ltb
  have q3 := hb3.below
  have hD : (depths a b c d is).1.length ≤ 257 := depths_len
  have hltr : (depths a b c d is).1 ≠ [] → Lt w4.heap.size (blkOf sr) := fun hne k hk => hrr.lt (by simpa [Is] using hne) k hk
  replace hb1 := hb1.ch0 hc4
  replace hb3 := hb3.ch0 hc4
  replace hr2 := hr2.ch0 hc4
  replace hc4 := hc3.tr hc4
  refine ldPr (s := s) hb1 ?_
  refine refLongest_ok (hs.ch0 hc4) hl fun w5 hc5 => ?_
  have z5 := hc5.size
  replace hb1 := hb1.ch0 hc5
  replace hb3 := hb3.ch0 hc5
  replace hr2 := hr2.ch0 hc5
  replace hrr := hrr.ch0 hc5
  replace hc5 := hc4.tr hc5
  refine ldPr (s := ⟨some ⟨cb, 0, none⟩, is.length, is.length + 2⟩) hb3 ?_
  refine depths_ok hr2.rd hl fun sp w6 hp6 hc6 => ?_
  have z6 := hc6.size
  have hpo := (hp6.own (by omega)).ltS
  have hpg := hp6.ge
  replace hb1 := hb1.ch0 hc6
  replace hb3 := hb3.ch0 hc6
  replace hr2 := hr2.ch0 hc6
  replace hrr := hrr.ch0 hc6
  replace hc6 := hc5.tr hc6
  refine ldPr (s := ⟨some ⟨cb, 0, none⟩, is.length, is.length + 2⟩) hb3 ?_
  refine depths_ok hr2.rd hl fun sq w7 hq7 hc7 => ?_
  have z7 := hc7.size
  have hqo := (hq7.own (by omega)).ltS
  have hqg := hq7.ge
  replace hb1 := hb1.ch0 hc7
  replace hb3 := hb3.ch0 hc7
  replace hr2 := hr2.ch0 hc7
  replace hrr := hrr.ch0 hc7
  replace hp6 := hp6.ch0 hc7
  replace hc7 := hc6.tr hc7
  refine ldPr (s := ⟨some ⟨cb, 0, none⟩, is.length, is.length + 2⟩) hb3 ?_
  refine longest_ok hr2.rd hl fun w8 hc8 => ?_
  replace hb1 := hb1.ch0 hc8
  replace hb3 := hb3.ch0 hc8
  replace hr2 := hr2.ch0 hc8
  refine ldPr (s := ⟨some ⟨cb, 0, none⟩, is.length, is.length + 2⟩) hb3 ?_
  refine verify_ok hr2.rd hl fun w9 hv9 => ?_
  have hc9 := hc8.tr hv9
  replace hrr := hrr.ch0 hc9
  replace hp6 := hp6.ch0 hc9
  replace hq7 := hq7.ch0 hc9
  refine iteB_neg (by simp) (iteB_neg (by simp) ?_)
  refine sameInts_ok hp6.rd hrr (by omega) fun w10 hc10 => iteB_neg (by simp) ?_
  refine sameInts_ok (hq7.ch0 hc10).rd (hrr.ch0 hc10) (by omega) fun w11 hc11 => iteB_neg (by simp) ?_
  refine iteB_neg (by simp) (iteB_neg (by simp) ?_)
  have hv11 := hv9.tr (hc10.tr hc11)
  replace hb1 := hb1.ch0 hv11
  replace hb3 := hb3.ch0 hv11
  replace hr2 := hr2.ch0 hv11
  refine ldPr (s := ⟨some ⟨cb, 0, none⟩, is.length, is.length + 2⟩) hb3 (ldPr (s := s) hb1 ?_)
  have hs11 := hc7.tr (hc8.tr hv11)
  refine intactP_ok hr2 (hs.ch0 hs11) (by omega) fun w12 hc12 => iteB_neg rfl ?_
  replace hb1 := hb1.ch0 hc12
  replace hb3 := hb3.ch0 hc12
  replace hr2 := hr2.ch0 hc12
  have hv12 := (hc10.tr hc11).tr hc12
  replace hp6 := hp6.ch0 hv12
  replace hq7 := hq7.ch0 hv12
  replace hrr := hrr.ch0 hv12
  have hc12' := hs11.tr hc12
  have z12 : w7.heap.size ≤ w12.heap.size := ((hc8.tr hv11).tr hc12).size
  clear hc8 hv9 hc9 hc10 hc11 hv11 hc12 hs11 hv12 hc7 hc6 hc5 hc4 hc3 hc2 hc1
  refine ver_tail (w0 := w) (bad := fun w' => false = true ∧ Chg Nil w w') (hp6.le (by omega)) (hq7.le (by omega)) hrr hD (fun k h1 h2 => by have := hpo k h1; have := hqg k h2; omega)
    (fun hne k h1 h2 => by have := hpg k h1; have := hltr hne k h2; omega) (fun hne k h1 h2 => by have := hqg k h1; have := hltr hne k h2; omega)
    (fun k hk => by have := hqo k hk; omega) (fun k hk => by have := hpo k hk; omega) (fun w13 hc13 => ?_)
  have nk : ∀ k, k < w4.heap.size → ¬ inL [blkOf sp, blkOf sq] k := fun k hk hin => by
    rcases (show some k = blkOf sp ∨ some k = blkOf sq from hin) with h | h
    · have := hpg k h.symm; omega
    · have := hqg k h.symm; omega
  refine ldPr (s := ⟨some ⟨cb, 0, none⟩, is.length, is.length + 2⟩) (hb3.ch hc13 (nk _ (by omega))) (ldPr (s := s) (hb1.ch hc13 (nk _ (by omega))) ?_)
  have hcc : Ch [] w w13 := hc12'.trans hc13 fun i hi hin => absurd hin (nk i (by omega))
  exact intactP_ok (hr2.ch hc13 (nk _ (by omega))) (hs.ch0 hcc) (by omega) fun w14 hc14 => ⟨rfl, (hcc.tr hc14 : Ch [] w w14)⟩
end Go.Proofs.Ytgpdecfcjpblgaa
