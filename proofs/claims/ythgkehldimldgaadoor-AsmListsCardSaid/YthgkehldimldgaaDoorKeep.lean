/- Keep: append of one element: what the old slice reads as stays so. -/
import Derived.Test.YthgkehldimldgaaDoorFr
import Derived.Deep.Slices
set_option linter.unusedVariables false
set_option linter.unusedSimpArgs false
namespace Go.Pl
open Go Go.Sh Go.RowKit
theorem apB_keep {P : Program} {t e ty : TypeId} {z : Value} {size bytes : Nat} (T : ElT P t e z size bytes) {cells : Array Value} {w : World} {s : Slc} {vs : List Value} {K : Slc → World → Prop} (hcs : cells.size = size) (h1 : ∀ u ∈ cells.toList, u.oneCell' = true)
    (hs : Own w e size s vs) (hb : (s.l + 1) * bytes ≤ 140737488355328) (hm : s.l + 1 ≤ 140737488355328)
    (hK : ∀ s' w', Own w' e size s' (vs ++ cells.toList) → s'.l = s.l + 1 → Gr s w s' w' → (∀ ad, s.a = some ad → ∀ j v, j < s.l * size → w.cell? (ad.add j) = some v → w'.cell? (ad.add j) = some v) → (s'.a = s.a ∨ Ge w.heap.size (blkOf s')) → K s' w') :
    newP cells e w fun a w1 => apP P #[t, t] ty [.slice s.a s.l s.c, .slice (some a) 1 1] w1 K := by
  refine newB fun b w1 hc1 hb1 hk1 hs1 => ?_
  have ho1 : Own w1 e size s vs := hs.ch0 hc1
  have hold := hs.ltS
  obtain ⟨i, hi, hz, hsz, hby⟩ := info_parts T.info
  have hnews : ∀ j u, cells.toList[j]? = some u → w1.cell? ((⟨b, 0, none⟩ : Addr).add j) = some u := fun j u hu => by
    rw [add_mk, Nat.zero_add, hb1.cell]; simpa using hu
  have hnl : cells.toList.length = 1 * size := by simp [hcs]
  obtain ⟨v', w', hrun, hown, hgr, hnil, hat⟩ := run_append_own_at (P := P) w1 0 t ty e i z size bytes T.und hi hz hsz hby T.zs T.pos _ s.l vs ho1 ⟨b, 0, none⟩ 1 1 cells.toList hnl hnews h1 (by unfold maxLen; omega) hb (Nat.zero_le _)
  obtain ⟨s', rfl, hl⟩ := own_slice hown
  have hown' : Own w' e size s' (vs ++ cells.toList) := by rw [← hl] at hown; exact hown
  have hlen : vs.length = s.l * size := hs.len
  rw [blkOf_own, blkOf_own] at hat
  have hgc : Ch [blkOf s] w w' := Ch.tr' hc1 ((Chg.grown hgr).mono fun k _ hk => by rw [blkOf_own] at hk; exact hk)
  refine ⟨s', w', by simpa using hrun, hK s' w' hown' hl ⟨hgc, fun k hk => ?_⟩ (fun ad had j v hj hv => ?_) ?_⟩
  · rcases hat with h2 | h2
    · exact .inl (h2 ▸ hk)
    · rw [h2] at hk; simp at hk; right; omega
  · have hv1 : w1.cell? (ad.add j) = some v := cell_chg (show Chg Nil w w1 from hc1) hv fun h => h
    rcases ho1.2 with ⟨he, h0⟩ | ⟨g, cap, cur, he, _, hg, hnc, hcm, hcsz, htake⟩
    · rw [h0] at hj; omega
    · injection he with e1 e2 e3
      by_cases hroom : s.l + 1 ≤ s.c
      · have hr := run_append_room (P := P) w1 t ty e i T.und hi g s.l s.c cur hg ⟨b, 0, none⟩ 1 1 cells.toList (by rw [hsz]; exact hnl) hnews h1 hroom (by rw [hsz, hcsz, e3.symm, hnl, ← Nat.add_mul]; exact Nat.mul_le_mul_right _ hroom)
        rw [e1] at hrun
        have hww := hrun.symm.trans hr
        injection hww with _ hw
        subst hw
        rw [had] at e1
        cases e1
        rw [← hv1, add_mk, Nat.zero_add]
        have hb2 : Blk (w1.setRow g (cur.toList.take (s.l * i.size) ++ cells.toList ++ cur.toList.drop (s.l * i.size + cells.toList.length)).toArray) g _ e := setRow_heap w1 g cur _ e _ hg
        rw [hb2.cell, (show Blk w1 g cur e from hg).cell]
        have hcl : s.l * size ≤ cur.size := by rw [hcsz]; exact Nat.mul_le_mul_right _ hnc
        rw [hsz]
        simp only [List.append_assoc, List.getElem?_toArray]
        rw [List.getElem?_append_left (by rw [List.length_take, Array.length_toList]; omega), List.getElem?_take, if_pos hj]
        simp
      · have hr := run_append_grow (P := P) w1 t ty e i z T.und hi hz ⟨g, 0, none⟩ s.l s.c vs (by rw [hsz]; exact hlen) (World.ownsRow.cells ho1 (g := g) (by rw [e1, e2, e3]; rw [← e2, ← e3]; rfl)) ⟨b, 0, none⟩ 1 1 cells.toList (by rw [hsz]; exact hnl) hnews (by omega) (by omega) (growslice_fits (by omega) (by rw [hby]; exact hb))
        rw [e1] at hrun
        have hww := hrun.symm.trans hr
        injection hww with _ hw
        subst hw
        exact cell_chg (S := Nil) (((Drw.refl w1).drew.chg Nil).step (Chg.alloc _ _ _) fun _ _ h => h) hv1 fun h => h
  · rcases hat with h2 | h2
    · left
      rcases hown'.2 with ⟨he, h0⟩ | ⟨g, cap, cur, he, _⟩
      · omega
      · injection he with e1 _ _
        rcases ho1.2 with ⟨he', h0'⟩ | ⟨g', cap', cur', he', _⟩
        · injection he' with e1' _ _
          rw [blkOf, blkOf, e1, e1'] at h2
          cases h2
        · injection he' with e1' _ _
          rw [blkOf, blkOf, e1, e1'] at h2
          simp at h2
          rw [e1, e1', h2]
    · right
      intro k hk
      rw [h2] at hk; simp at hk; omega
theorem Rd.kept {w w' : World} {s q : Slc} {us : List Value} {n : Nat} (h : Rd w q us) (ha : q.a = s.a) (hn : us.length ≤ n) (hk : ∀ ad, s.a = some ad → ∀ j v, j < n * 1 → w.cell? (ad.add j) = some v → w'.cell? (ad.add j) = some v) : Rd w' q us :=
  ⟨h.len, h.cap, fun i hi => by
    obtain ⟨ad, h1, h2⟩ := h.at_ i hi
    have hv : us[i]? = some us[i] := by simp [hi]
    refine ⟨ad, h1, ?_⟩
    rw [hv] at h2 ⊢
    exact hk ad (by rw [← ha]; exact h1) i _ (by omega) h2⟩
end Go.Pl
