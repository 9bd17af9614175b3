/- Shelf: append by which the old row stays a row of its own. -/
import Derived.Test.YtlnhecbgjjglfaaKeep
set_option linter.unusedVariables false
set_option linter.unusedSimpArgs false
namespace Go.Pl
open Go Go.Sh Go.RowKit
theorem apS {P : Program} {t e ty : TypeId} {z : Value} {size bytes : Nat} (T : ElT P t e z size bytes) {w : World} {s x : Slc} {vs news : List Value} {ad : Addr} {K : Slc → World → Prop} (hs : Own w e size s vs) (hxa : x.a = some ad) (hnl : news.length = x.l * size)
    (hn : ∀ j u, news[j]? = some u → w.cell? (ad.add j) = some u) (h1 : ∀ u ∈ news, u.oneCell' = true) (hb : (s.l + x.l) * bytes ≤ 140737488355328) (hm : s.l + x.l ≤ 140737488355328)
    (hK : ∀ s' w', Own w' e size s' (vs ++ news) → s'.l = s.l + x.l → Ch [blkOf s] w w' → Own w' e size s vs → ((s'.a = s.a ∧ s'.c = s.c ∧ s.a ≠ none) ∨ Ge w.heap.size (blkOf s')) → K s' w') :
    apP P #[t, t] ty [.slice s.a s.l s.c, .slice x.a x.l x.c] w K := by
  obtain ⟨i, hi, hz, hsz, hby⟩ := info_parts T.info
  obtain ⟨v', w', hrun, hown, hgr, hnil, hat⟩ := run_append_own_at (P := P) w 0 t ty e i z size bytes T.und hi hz hsz hby T.zs T.pos _ s.l vs hs ad x.l x.c news hnl hn h1 (by unfold maxLen; omega) hb (Nat.zero_le _)
  obtain ⟨s', rfl, hl⟩ := own_slice hown
  have hown' : Own w' e size s' (vs ++ news) := by rw [← hl] at hown; exact hown
  have hlen : vs.length = s.l * size := hs.len
  rw [blkOf_own, blkOf_own] at hat
  have hgc : Ch [blkOf s] w w' := (Chg.grown hgr).mono fun k _ hk => by rw [blkOf_own] at hk; exact hk
  rw [← hxa] at hrun
  have new : blkOf s' = some w.heap.size → Ge w.heap.size (blkOf s') := fun h k hk => by
    rw [h] at hk; cases hk; exact Nat.le_refl _
  have hz0 : 0 < size := T.pos
  rcases hs.2 with ⟨he, h0⟩ | ⟨g, cap, cur, he, hg0, hg, hnc, hcm, hcsz, htake⟩
  · have e1 : s.a = none := by injection he
    refine ⟨s', w', by simpa using hrun, hK s' w' hown' hl hgc ⟨hs.1, .inl ⟨he, h0⟩⟩ (.inr ?_)⟩
    rcases hat with h2 | h2
    · intro k hk
      rw [h2] at hk
      simp [blkOf, e1] at hk
    · exact new h2
  · have he' := he
    injection he with e1 e2 e3
    by_cases hroom : s.l + x.l ≤ s.c
    · have hfit : s.l * size + news.length ≤ cur.size := by
        rw [hcsz, ← e3, hnl, ← Nat.add_mul]; exact Nat.mul_le_mul_right _ hroom
      have hr := run_append_room (P := P) w t ty e i T.und hi g s.l s.c cur hg ad x.l x.c news (by rw [hsz]; exact hnl) hn h1 hroom (by rw [hsz]; exact hfit)
      rw [e1, hxa] at hrun
      have hww := hrun.symm.trans hr
      injection hww with hv hw
      injection hv with a1 a2 a3
      subst hw
      have hb2 : Blk (w.setRow g (cur.toList.take (s.l * i.size) ++ news ++ cur.toList.drop (s.l * i.size + news.length)).toArray) g _ e := setRow_heap w g cur _ e _ hg
      have hcl : s.l * size ≤ cur.size := by rw [hcsz]; exact Nat.mul_le_mul_right _ hnc
      refine ⟨s', _, by rw [e1, hxa]; exact hrun, hK s' _ hown' hl hgc ⟨hs.1, .inr ⟨g, cap, _, he', hg0, hb2, hnc, hcm, ?_, ?_⟩⟩ (.inl ⟨by rw [a1, e1], a3, by rw [e1]; simp⟩)⟩
      · rw [hsz]
        simp only [List.size_toArray, List.length_append, List.length_take, List.length_drop, Array.length_toList]
        omega
      · rw [hsz]
        simp only [List.append_assoc]
        rw [List.take_append_of_le_length (by rw [List.length_take, Array.length_toList]; omega), List.take_take, Nat.min_self]
        exact htake
    · have hr := run_append_grow (P := P) w t ty e i z T.und hi hz ⟨g, 0, none⟩ s.l s.c vs (by rw [hsz]; exact hlen) (World.ownsRow.cells hs (g := g) (by rw [e1, e2, e3]; rw [← e2, ← e3]; rfl)) ad x.l x.c news (by rw [hsz]; exact hnl) hn (by omega) (by omega) (growslice_fits (by omega) (by rw [hby]; exact hb))
      rw [e1, hxa] at hrun
      have hww := hrun.symm.trans hr
      injection hww with hv hw
      injection hv with a1 a2 a3
      subst hw
      refine ⟨s', _, by rw [e1, hxa]; exact hrun, hK s' _ hown' hl hgc ?_ (.inr ?_)⟩
      · exact hs.chg (S := Nil) (((Drw.refl w).drew.chg Nil).step (Chg.alloc _ _ _) fun _ _ h => h) fun _ _ h => h
      · intro k hk
        simp [blkOf, a1] at hk
        omega
/-- .. of one element. -/
theorem apS1 {P : Program} {t e ty : TypeId} {z : Value} {size bytes : Nat} (T : ElT P t e z size bytes) {cells : Array Value} {w : World} {s : Slc} {vs : List Value} {K : Slc → World → Prop} (hcs : cells.size = size) (h1 : ∀ u ∈ cells.toList, u.oneCell' = true)
    (hs : Own w e size s vs) (hb : (s.l + 1) * bytes ≤ 140737488355328) (hm : s.l + 1 ≤ 140737488355328)
    (hK : ∀ s' w', Own w' e size s' (vs ++ cells.toList) → s'.l = s.l + 1 → Ch [blkOf s] w w' → Own w' e size s vs → ((s'.a = s.a ∧ s'.c = s.c ∧ s.a ≠ none) ∨ Ge w.heap.size (blkOf s')) → K s' w') :
    newP cells e w fun a w1 => apP P #[t, t] ty [.slice s.a s.l s.c, .slice (some a) 1 1] w1 K := by
  refine newB fun b w1 hc1 hb1 hk1 hs1 => ?_
  refine apS T (x := ⟨some ⟨b, 0, none⟩, 1, 1⟩) (hs.ch0 hc1) rfl (by simp [hcs]) (fun j u hu => ?_) h1 hb hm fun s' w' ho hl hc hk hor => hK s' w' ho hl (Ch.tr' hc1 hc) hk (hor.imp id fun h k hk => ?_)
  · rw [add_mk, Nat.zero_add, hb1.cell]; simpa using hu
  · have := h k hk; omega
end Go.Pl
