/- Lists: the law AsmLists. -/
import Derived.Test.YthgkehldimldgaaDoorLent
import Derived.Test.YthgkehldimldgaaDoorAsmL
set_option linter.unusedVariables false
set_option linter.unusedSimpArgs false
namespace Go.Proofs.YthgkehldimldgaaDoor
open Go Go.Sh Go.Pl Go.RowKit Go.Lang Go.Names Go.Gt
theorem bulkN_mem : ∀ {ps : List Pc} {x : Pc}, x ∈ ps → 1 + x.name.size + x.p.l.length ≤ bulkN ps
  | p :: ps, x, h => by
    simp only [bulkN, List.map_cons, List.sum_cons]
    rcases List.mem_cons.1 h with rfl | h
    · omega
    · have := bulkN_mem h
      simp only [bulkN] at this
      omega
theorem law_AsmLists {s : Slc} {ms : Mo libG} {w : World} (hL : Lv w) (k0 : Gt.Rep reachBytes w libG [.slice s.a s.l s.c] ms) : c_preludelaw04_AsmLists s w fun r w' => r = true ∧ Chg Nil w w' := by
  refine sim_preludelaw04_AsmLists ?_
  unfold sh_preludelaw04_AsmLists
  obtain ⟨hs0, hI, hnil, hcap⟩ := rep_lib (Nat.le_refl _) k0
  have hre : reachBytes = 140737488351232 := rfl
  have ls := hs0.len
  have cs := hs0.cap
  generalize libOf ms = ps at *
  have hI' : ∀ x ∈ ps, I64P x := fun x hx => by
    obtain ⟨⟨h1, h2, h3, h4, h5⟩, _⟩ := hI x hx
    exact ⟨h1, h2, h3, h4, fun y hy => ⟨(h5 y hy).1, (h5 y hy).2⟩⟩
  refine parts4_ok hs0 (fun x hx => by have := (hI x hx).2; omega) (by omega) fun n1 w1 hc1 hb => ?_
  refine iteB_dec (fun h => ⟨rfl, hc1⟩) fun h => ?_
  have hbulk := hb (by omega)
  have hpl := bulkN_len ps
  have few : ∀ x ∈ ps, x.p.l.length ≤ 100000 := fun x hx => by have := bulkN_mem hx; omega
  obtain ⟨cf, hs⟩ := hs0.fn
  have fin : ∀ (r3 : Slc) (w2 : World), Ch [] w w2 → RdL w2 r3 ps → (∀ w', Ch [] w2 w' → c_preludelaw04_back r3 s w' fun r w' => r = true ∧ Chg Nil w w') →
      c_asm_List r3 w2 fun r5 r6 w7 => c_preluderef04_List s w7 fun r8 r9 w10 => iteB ((r5).toList == (r8).toList)
        (c_preludelaw04_num r6 w10 fun r11 w12 => iteB ((r11 : Int) == r9)
        (c_preludelaw04_back r3 s w12 fun r13 w14 => (r13 = true ∧ Chg Nil w w14))
        (false = true ∧ Chg Nil w w12))
        (false = true ∧ Chg Nil w w10) := fun r3 w2 hc2 hr3 hback => by
    refine alist_ok hr3 (hL.ch0 hc2) hI' hbulk fun w3 hc3 => ?_
    refine rlist_ok (hs0.ch0 (hc2.tr hc3)) hI' hbulk fun w4 hc4 => ?_
    rw [seq_eq, seq_refl]
    refine iteB_pos rfl ?_
    refine sim_preludelaw04_num ?_
    unfold sh_preludelaw04_num
    exact iteB_pos (by simp) (hback w4 (hc3.tr hc4))
  refine lent_ok (hs.ch0 hc1) (by omega) few (fun hn => ?_) fun hn k w2 hN hc2 => ?_
  · have h0 : ps = [] := List.eq_nil_of_length_eq_zero (by have := hnil hn; omega)
    refine fin _ w1 hc1 (by rw [h0]; exact ⟨rfl, Nat.le_refl _, fun i x hx => by simp at hx⟩) fun w' hc' => ?_
    exact back0_ok (hs0.ch0 (hc1.tr hc')) hn h0 fun w'' hc'' => ⟨rfl, ((hc1.tr hc').tr hc'' : Ch [] w w'')⟩
  · refine fin _ w2 (hc1.tr hc2) hN.rdL fun w' hc' => ?_
    exact back_ok (hs.ch0 ((hc1.tr hc2).tr hc')) hn (hN.ch0 hc') (by omega) few fun w'' hc'' => ⟨rfl, (((hc1.tr hc2).tr hc').tr hc'' : Ch [] w w'')⟩
end Go.Proofs.YthgkehldimldgaaDoor
