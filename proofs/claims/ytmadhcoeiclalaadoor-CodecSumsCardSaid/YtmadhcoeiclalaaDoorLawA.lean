/- LawA: the laws on check sums and bursts, as contracts. -/
import Derived.Test.YtmadhcoeiclalaaDoorSum
set_option linter.unusedVariables false
set_option linter.unusedSimpArgs false
namespace Go.Proofs.YtmadhcoeiclalaaDoor
open Go Go.Sh Go.Pl Go.RowKit Go.Crc
theorem law_CodecSums {b : Slc} {bs : List UInt8} {w : World} (ht : Tab w) (hb : Rd w b (U8 bs)) (hn : b.a = none → b.l = 0) (hl : bs.length ≤ 140737488351232) :
    c_preludelaw01_CodecSums b w fun r w' => r = true ∧ Chg Nil w w' := by
  refine sim_preludelaw01_CodecSums ?_
  unfold sh_preludelaw01_CodecSums
  refine roomy_ok hb hn hl fun w1 hc1 hb1 hs1 => ?_
  have nil : ∀ (S : Nat → Prop) k, Nil k → S k := fun S k h => h.elim
  have ht1 : Tab w1 := ht.chg hc1 (fun h => h)
  have hr1 : Rd w1 ⟨some ⟨w.heap.size, 0, none⟩, bs.length, bs.length + 3⟩ (U8 bs) := by
    have := hb1.rd (o := 0) (l := bs.length) (c := bs.length + 3) (by simp) (by omega)
    rw [List.drop_zero, U8_take] at this
    simpa using this
  have hr2 : Rd w1 ⟨some ⟨w.heap.size, 0, none⟩, bs.length + 3, bs.length + 3⟩ (U8 (bs ++ [171, 171, 171])) := by
    have := hb1.rd (o := 0) (l := bs.length + 3) (c := bs.length + 3) (by simp) (by omega)
    rw [List.drop_zero, U8_take, List.take_of_length_le (by simp)] at this
    exact this
  have hb1' : Rd w1 b (U8 bs) := hb.chg hc1 (fun _ _ h => h)
  refine sum_ok ht1 hr1 (by omega) ?_
  refine refSum_ok hb1' (by omega) ?_
  simp only [beq_self_eq_true, iteB_true]
  refine intact_ok hr2 rfl hb1' (by omega) fun w2 hd2 => ?_
  simp only [decide_true, iteB_true]
  have ht2 : Tab w2 := ht1.chg (hd2.chg Nil) (fun h => h)
  refine sum_ok (bs := []) ht2 (Rd.nil _ _) (by simp) ?_
  rw [show (((crc []).toNat : Int) == 0) = true from by decide]
  simp only [iteB_true]
  refine newP_intro fun w3 hc3 hb3 hs3 => ?_
  refine ⟨⟨some ⟨w2.heap.size, 0, none⟩, 9, 9⟩, _, convert_const TU8.und (by kernel_rfl) hb3 9 9, ?_⟩
  have hc4 : Chg Nil w2 (w3.freeze ⟨w2.heap.size, (#[Value.int .u8 49, Value.int .u8 50, Value.int .u8 51, Value.int .u8 52, Value.int .u8 53, Value.int .u8 54, Value.int .u8 55, Value.int .u8 56, Value.int .u8 57] : Array Value).size, none⟩ 1) :=
    hc3.step (Chg.freeze _ _ _) fun i hi h => by simp only at h; omega
  have hr3 : Rd w3 ⟨some ⟨w2.heap.size, 0, none⟩, 9, 9⟩ (U8 [49, 50, 51, 52, 53, 54, 55, 56, 57]) := hb3.rd (o := 0) (l := 9) (c := 9) (by simp) (by omega)
  refine sum_ok (bs := [49, 50, 51, 52, 53, 54, 55, 56, 57]) (ht2.chg hc4 (fun h => h)) ⟨hr3.len, hr3.cap, fun i hi => ?_⟩ (by simp) ?_
  · obtain ⟨ad, ha, hx⟩ := hr3.at_ i hi
    exact ⟨ad, ha, by rw [freeze_cell]; exact hx⟩
  · refine ⟨by decide +kernel, (hc1.step (hd2.chg Nil) fun _ _ h => h).step hc4 fun _ _ h => h⟩
end Go.Proofs.YtmadhcoeiclalaaDoor
