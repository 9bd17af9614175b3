/- Sb: 'are two lists of numbers the same?', whichever package's: the formula. -/
import Derived.Test.YthgkehldimldgaaDoorFr
set_option linter.unusedVariables false
set_option linter.unusedSimpArgs false
namespace Go.Pl
open Go Go.Sh Go.RowKit
def Is (k : IntKind) (xs : List Int) : List Value := xs.map (Value.int k)
@[simp] theorem Is_length (k : IntKind) (xs : List Int) : (Is k xs).length = xs.length := by simp [Is]
theorem Is_at (k : IntKind) (xs : List Int) {i : Nat} (h : i < xs.length) : (Is k xs)[i]? = some (.int k xs[i]) := by simp [Is, h]
theorem U8_Is (bs : List UInt8) : U8 bs = Is .u8 (bs.map fun b => (b.toNat : Int)) := by simp [U8, Is]
theorem Is_one (k : IntKind) (xs : List Int) : ∀ u ∈ Is k xs, u.oneCell' = true := by
  intro u hu
  obtain ⟨b, _, rfl⟩ := List.mem_map.1 hu
  rfl
theorem ints_eq {a b : List UInt8} : decide ((a.map fun b => (b.toNat : Int)) = b.map fun b => (b.toNat : Int)) = decide (a = b) := by
  by_cases h : a = b
  · simp [h]
  · rw [decide_eq_false h, decide_eq_false]
    intro h'
    exact h (U8_inj (by rw [U8_Is, U8_Is, h']))
theorem sameF {k : IntKind} {a b : Slc} {xs ys : List Int} {w : World} {K : Bool → World → Prop} (ha : Rd w a (Is k xs)) (hb : Rd w b (Is k ys)) (hl : xs.length ≤ 9000000000000000000)
    (hK : ∀ w', Ch [] w w' → K (decide (xs = ys)) w') :
    iteB (((a.l : Int) : Int) != (b.l : Int)) (K false w)
      (loopP (σ := Int × Unit) (fun st2 next1 w3 => (fun (i_4 : Int) => iteB (decide ((i_4 : Int) < (a.l : Int)))
        (idxP a.a a.l i_4 1 fun a5 => ldI k a5 w3.drew fun n6 => idxP b.a b.l i_4 1 fun a7 => ldI k a7 w3.drew fun n8 => iteB ((n6 : Int) != n8) (K false w3.drew) (next1 ((IntKind.i64.wrap (i_4 + 1)), ()) w3.drew))
        (K true w3)) st2.1) (0, ()) w) := by
  have la := ha.len
  have lb := hb.len
  simp only [Is_length] at la lb
  refine iteB_intro (fun h => ?_) (fun h => ?_)
  · have hne : xs.length ≠ ys.length := by
      simp [la, lb] at h; omega
    have := hK w (Ch.refl _ w)
    rwa [decide_eq_false (fun he => hne (by rw [he]))] at this
  · have hle : xs.length = ys.length := by
      simp [la, lb] at h; omega
    refine loopP_inv (fun st w1 => ∃ i : Nat, st.1 = (i : Int) ∧ i ≤ xs.length ∧ xs.take i = ys.take i ∧ Drw w w1) (fun st _ => xs.length - st.1.toNat) ⟨0, rfl, Nat.zero_le _, by simp, Drw.refl w⟩ ?_
    rintro ⟨i, u⟩ w1 next ⟨j, rfl, hk, hpre, hd⟩ hnext
    simp only
    refine iteB_intro (fun h => ?_) (fun h => ?_)
    · have hlt : j < xs.length := by
        simp [la] at h; omega
      refine (ha.drw hd.drew).idx (by omega) (by simpa using hlt) fun ad had => ?_
      refine ldI_of (n := xs[j]) (by rw [had]; simpa using Is_at k xs hlt) ?_
      refine (hb.drw hd.drew).idx (by omega) (by simpa using (by omega : j < ys.length)) fun bd hbd => ?_
      refine ldI_of (n := ys[j]) (by rw [hbd]; simpa using Is_at k ys (by omega : j < ys.length)) ?_
      refine iteB_intro (fun h => ?_) (fun h => ?_)
      · have hne : xs[j] ≠ ys[j] := by simpa using h
        have := hK _ (hd.drew.chg Nil)
        rwa [decide_eq_false (fun he => hne (by simp [he]))] at this
      · have he : xs[j] = ys[j] := by simpa using h
        rw [wrap_i64 (by omega)]
        refine hnext _ _ ⟨j + 1, rfl, hlt, ?_, hd.drew⟩ (by simp; omega)
        rw [List.take_succ_eq_append_getElem hlt, List.take_succ_eq_append_getElem (by omega : j < ys.length), hpre, he]
    · have hge : j = xs.length := by
        simp [la] at h; omega
      have := hK _ (hd.chg Nil)
      rw [hge] at hpre
      rwa [decide_eq_true (by rw [List.take_length] at hpre; rw [hle] at hpre; rwa [List.take_length] at hpre)] at this
theorem sameB {a b : Slc} {xs ys : List UInt8} {w : World} {K : Bool → World → Prop} (ha : Rd w a (U8 xs)) (hb : Rd w b (U8 ys)) (hl : xs.length ≤ 9000000000000000000)
    (hK : ∀ w', Ch [] w w' → K (decide (xs = ys)) w') :
    iteB (((a.l : Int) : Int) != (b.l : Int)) (K false w)
      (loopP (σ := Int × Unit) (fun st2 next1 w3 => (fun (i_4 : Int) => iteB (decide ((i_4 : Int) < (a.l : Int)))
        (idxP a.a a.l i_4 1 fun a5 => ldI .u8 a5 w3.drew fun n6 => idxP b.a b.l i_4 1 fun a7 => ldI .u8 a7 w3.drew fun n8 => iteB ((n6 : Int) != n8) (K false w3.drew) (next1 ((IntKind.i64.wrap (i_4 + 1)), ()) w3.drew))
        (K true w3)) st2.1) (0, ()) w) := by
  rw [U8_Is] at ha hb
  exact sameF ha hb (by simpa using hl) fun w' hc => by rw [ints_eq]; exact hK w' hc
end Go.Pl
