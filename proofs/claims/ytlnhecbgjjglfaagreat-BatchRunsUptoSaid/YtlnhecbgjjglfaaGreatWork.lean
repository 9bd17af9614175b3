/- Work: batch.Accept; the laws' 'works'. -/
import Derived.Test.YtlnhecbgjjglfaaGreatDecE
import Derived.Test.YtlnhecbgjjglfaaGreatBDecW
set_option linter.unusedVariables false
set_option linter.unusedSimpArgs false
namespace Go.Proofs.YtlnhecbgjjglfaaGreat
open Go Go.Sh Go.Pl Go.RowKit Go.Num Go.Gt
/-- What Accept answers. -/
inductive AccR (ps : List LpM) (bs : List UInt8) (lo : Nat) (w : World) : Slc → Value → Prop
  | bytes (k : Nat) (h : (decB bs).2.2 ≠ 0) (hb : Blk w k #[.int .i64 ((decB bs).2.1 : Int), .iface 28 (.int .i64 (decB bs).2.2)] 73) : AccR ps bs lo w ⟨none, 0, 0⟩ (.iface 71 (.pointer (some ⟨k, 0, none⟩)))
  | tx (k : Nat) (h : (decB bs).2.2 = 0) (h2 : (chkT (soundT ps) (decB bs).1).2 ≠ 0) (hb : Blk w k #[.int .i64 (chkT (soundT ps) (decB bs).1).1, .iface 28 (.int .i64 (chkT (soundT ps) (decB bs).1).2)] 77) : AccR ps bs lo w ⟨none, 0, 0⟩ (.iface 75 (.pointer (some ⟨k, 0, none⟩)))
  | ok (s : Slc) (ts : List TxR) (h : (decB bs).2.2 = 0) (h2 : (chkT (soundT ps) (decB bs).1).2 = 0) (hD : DO lo w s ts) (he : ts.map (·.x) = (decB bs).1) : AccR ps bs lo w s .nilIface
theorem accept_ok {lib data : Slc} {ps : List LpM} {bs : List UInt8} {w : World} {K : Slc → Value → World → Prop} (hL : RdS w lib ps) (hx : Rd w data (U8 bs)) (hl : bs.length ≤ 140737488351232)
    (hK : ∀ s v w', AccR ps bs w.heap.size w' s v → Ch [] w w' → K s v w') : c_batch_Accept lib data w K := by
  refine sim_batch_Accept ?_
  unfold sh_batch_Accept
  refine bdec_ok hx hl fun s ts w1 hD he hc1 => ?_
  refine iteB_ne (fun h => ?_) (fun h => ?_)
  · refine newB fun k w2 hc2 hb2 hk2 hs2 => ?_
    exact hK _ _ w2 (.bytes k h hb2) (hc1.tr hc2)
  · have hr := hD.rdB
    rw [he] at hr
    refine bcheck_ok (hL.ch0 hc1) hr fun w2 hc2 => ?_
    refine iteB_ne (fun h2 => ?_) (fun h2 => ?_)
    · refine newB fun k w3 hc3 hb3 hk3 hs3 => ?_
      exact hK _ _ w3 (.tx k h h2 hb3) ((hc1.tr hc2).tr hc3)
    · exact hK _ _ w2 (.ok s ts h h2 (hD.ch0 hc2) he) (hc1.tr hc2)
def plainT : Txm := ⟨0, [10], [], [(0, 1)]⟩
def plainR : List UInt8 := [1, 0, 1, 20, 0, 1, 0, 0, 128, 0, 0, 0, 0, 0, 0, 1]
def plainL : List LpM := [⟨3, 1, 0, 1, 0, 2⟩]
theorem plain_b : batB [plainT] = plainR := by
  have hk : kB (0, 1) = [0, 0, 128, 0, 0, 0, 0, 0, 0, 1] := by decide +kernel
  have e0 : encU 0 = [0] := by rw [encU_low (by omega)]; rfl
  have e1 : encU 1 = [1] := by rw [encU_low (by omega)]; rfl
  have e20 : encU 20 = [20] := by rw [encU_low (by omega)]; rfl
  have z : zig 10 = 20 := by decide
  simp [batB, txB, plainT, argsB, setB, hk, e0, e1, e20, z, plainR]
theorem plain_f : Frm plainT := ⟨by decide, by decide, by decide, by decide, by decide, by decide, by decide⟩
theorem plain_64 : T64 plainT := ⟨by decide, fun a ha => by simp [plainT] at ha; omega, fun a ha => by simp [plainT] at ha, fun a ha => by simp [plainT] at ha; subst ha; decide⟩
theorem plain_e : encT [plainT] = (plainR, 0) := by
  rw [encT_of (by decide) fun x hx => by simp at hx; subst hx; exact plain_f, plain_b]
theorem plain_d : decB plainR = ([plainT], 0, 0) := by
  have := decB_enc (xs := [plainT]) (by decide) (fun x hx => by simp at hx; subst hx; exact ⟨plain_f, plain_64⟩) []
  rwa [plain_b, List.append_nil, if_pos rfl] at this
theorem plain_c : chkT (soundT plainL) [plainT] = (0, 0) := by decide +kernel
set_option maxHeartbeats 1000000 in
set_option maxRecDepth 20000 in
theorem plain_ok {w : World} {K : Slc → Slc → Slc → World → Prop} (hK : ∀ l b r w', RdS w' l plainL → RdB w' b [plainT] → Rd w' r (U8 plainR) → Ch [] w w' → K l b r w') : c_preludelaw06_plain w K := by
  refine sim_preludelaw06_plain ?_
  unfold sh_preludelaw06_plain
  refine newB fun k1 w1 hc1 hb1 hk1 hs1 => newB fun k2 w2 hc2 hb2 hk2 hs2 => newB fun k3 w3 hc3 hb3 hk3 hs3 => newB fun k4 w4 hc4 hb4 hk4 hs4 => newB fun k5 w5 hc5 hb5 hk5 hs5 => newB fun k6 w6 hc6 hb6 hk6 hs6 => ?_
  replace hb2 := (((hb2.ch0 hc3).ch0 hc4).ch0 hc5).ch0 hc6
  replace hb3 := ((hb3.ch0 hc4).ch0 hc5).ch0 hc6
  replace hb4 := (hb4.ch0 hc5).ch0 hc6
  replace hb5 := hb5.ch0 hc6
  have cell : ∀ {k : Nat} {cur : Array Value} {t : TypeId} {o : Nat} {v : Value}, Blk w6 k cur t → cur[o]? = some v → w6.cell? ((⟨k, 0, none⟩ : Addr).add o) = some v := fun h hv => by rw [add_mk, Nat.zero_add, h.cell]; exact hv
  refine hK _ _ _ w6 ⟨rfl, fun i x hx => ?_⟩ ⟨rfl, Nat.le_refl _, fun i x hx => ?_⟩ ?_ (((((hc1.tr hc2).tr hc3).tr hc4).tr hc5).tr hc6)
  · have hi : i = 0 := by
      have := (List.getElem?_eq_some_iff.1 hx).1
      simp [plainL] at this; omega
    subst hi
    simp [plainL] at hx
    subst hx
    refine ⟨⟨k2, 0, none⟩, _, ⟨some ⟨k1, 0, none⟩, 2, 2⟩, rfl, ⟨cell (o := 0) hb2 rfl, ?_, ?_, ?_, ?_, ?_, by decide +kernel, rfl⟩⟩
    · exact cell (o := 1) hb2 rfl
    · exact cell (o := 2) hb2 rfl
    · exact cell (o := 3) hb2 rfl
    · exact cell (o := 4) hb2 rfl
    · exact cell (o := 5) hb2 rfl
  · have hi : i = 0 := by
      have := (List.getElem?_eq_some_iff.1 hx).1
      simp at this; omega
    subst hi
    simp at hx
    subst hx
    refine ⟨⟨k5, 0, none⟩, ⟨some ⟨k3, 0, none⟩, 1, 1⟩, ⟨none, 0, 0⟩, ⟨some ⟨k4, 0, none⟩, 1, 1⟩, rfl, ⟨cell (o := 0) hb5 rfl, cell (o := 1) hb5 rfl, cell (o := 2) hb5 rfl, cell (o := 3) hb5 rfl, ?_, RdC.nil rfl, ?_, fun h => (by cases h), fun _ => ⟨rfl, rfl⟩, fun h => (by cases h)⟩⟩
    · refine ⟨rfl, Nat.le_refl _, fun i hi => ⟨_, rfl, ?_⟩⟩
      have : i = 0 := by simp [plainT, Is] at hi; omega
      subst this
      exact cell (o := 0) hb3 rfl
    · refine ⟨rfl, Nat.le_refl _, fun i x hx => ?_⟩
      have hi : i = 0 := by
        have := (List.getElem?_eq_some_iff.1 hx).1
        simp [plainT] at this; omega
      subst hi
      simp [plainT] at hx
      subst hx
      exact ⟨_, rfl, cell (o := 0) hb4 rfl, cell (o := 1) hb4 rfl⟩
  · have := hb6.rd (o := 0) (l := 16) (c := 16) (by simp) (Nat.le_refl _)
    have e : ((#[.int .u8 1, .int .u8 0, .int .u8 1, .int .u8 20, .int .u8 0, .int .u8 1, .int .u8 0, .int .u8 0, .int .u8 128, .int .u8 0, .int .u8 0, .int .u8 0, .int .u8 0, .int .u8 0, .int .u8 0, .int .u8 1] : Array Value).toList.drop 0).take 16 = U8 plainR := rfl
    rw [e] at this
    exact this
theorem works_ok {w : World} {K : Bool → World → Prop} (hK : ∀ w', Ch [] w w' → K true w') : c_preludelaw06_works w K := by
  refine sim_preludelaw06_works ?_
  unfold sh_preludelaw06_works
  refine plain_ok fun l b r w1 hL hB hR hc1 => ?_
  refine benc_ok hB (fun x hx => by simp at hx; subst hx; exact plain_64.a) fun s2 w2 ho2 hc2 hg2 hl2 hn2 => ?_
  rw [plain_e] at ho2 ⊢
  dsimp only at ho2 ⊢
  refine accept_ok (hL.ch0 hc2) (hR.ch0 hc2) (by decide) fun s3 v3 w3 hA hc3 => ?_
  refine sim_preludelaw06_num ?_
  unfold sh_preludelaw06_num
  refine iteB_pos rfl ?_
  have hc23 := hc2.tr hc3
  refine lsame_ok (ho2.ch0 hc3).rd (hR.ch0 hc23) (by decide) fun w4 hc4 => ?_
  rw [decide_eq_true rfl]
  refine iteB_pos rfl ?_
  cases hA with
  | bytes k h hb => rw [plain_d] at h; exact absurd rfl h
  | tx k h h2 hb => rw [plain_d] at h2; dsimp only at h2; rw [plain_c] at h2; exact absurd rfl h2
  | ok s ts h h2 hD he =>
    rw [plain_d] at he
    have hr := (hD.ch0 hc4).rdB
    rw [he] at hr
    simp only [nilI]
    refine iteB_pos rfl ?_
    refine sameBatch_ok hr (hB.ch0 (hc23.tr hc4)) (by decide) (fun x hx => by simp at hx; subst hx; decide) fun w5 hc5 => ?_
    exact hK w5 (((hc1.tr hc23).tr hc4).tr hc5)
end Go.Proofs.YtlnhecbgjjglfaaGreat
