/- Work: batch.Accept; the laws' 'works'. -/
import Derived.Test.YtlnhecbgjjglfaaDoorDecF
set_option linter.unusedVariables false
set_option linter.unusedSimpArgs false
namespace Go.Proofs.YtlnhecbgjjglfaaDoor
open Go Go.Sh Go.Pl Go.RowKit Go.Num Go.Gt
/-- What Accept answers. -/
inductive AccR (ps : List LpM) (bs : List UInt8) (lo : Nat) (w : World) : Slc → Value → Prop
  | bytes (k : Nat) (h : (decB bs).2.2 ≠ 0) (hb : Blk w k #[.int .i64 ((decB bs).2.1 : Int), .iface 43 (.int .i64 (decB bs).2.2)] 48) : AccR ps bs lo w ⟨none, 0, 0⟩ (.iface 46 (.pointer (some ⟨k, 0, none⟩)))
  | tx (k : Nat) (h : (decB bs).2.2 = 0) (h2 : (chkT (soundT ps) (decB bs).1).2 ≠ 0) (hb : Blk w k #[.int .i64 (chkT (soundT ps) (decB bs).1).1, .iface 43 (.int .i64 (chkT (soundT ps) (decB bs).1).2)] 53) : AccR ps bs lo w ⟨none, 0, 0⟩ (.iface 51 (.pointer (some ⟨k, 0, none⟩)))
  | ok (s : Slc) (ts : List TxR) (h : (decB bs).2.2 = 0) (h2 : (chkT (soundT ps) (decB bs).1).2 = 0) (hD : DO lo w s ts) (he : ts.map (·.x) = (decB bs).1) : AccR ps bs lo w s .nilIface
theorem accept_ok {lib data : Slc} {ps : List LpM} {bs : List UInt8} {w : World} {K : Slc → Value → World → Prop} (hL : RdS w lib ps) (hx : Rd w data (U8 bs)) (hl : bs.length ≤ 140737488351232)
    (hK : ∀ s v w', AccR ps bs w.heap.size w' s v → Ch [] w w' → K s v w') : c_batch_Accept lib data w K := by
  refine sim_batch_Accept ?_
  unfold sh_batch_Accept
  refine bdec_ok hx hl fun s ts w1 hD he hc1 => ?_
  refine iteB_ne (fun h => ?_) (fun h => ?_)
  · refine newB fun k w2 hc2 hb2 hk2 hs2 => ?_
    exact hK _ _ w2 (.bytes k h hb2) (hc1.tr hc2)
  · have hr := hD.rdB
    rw [he] at hr
    refine bcheck_ok (hL.ch0 hc1) hr fun w2 hc2 => ?_
    refine iteB_ne (fun h2 => ?_) (fun h2 => ?_)
    · refine newB fun k w3 hc3 hb3 hk3 hs3 => ?_
      exact hK _ _ w3 (.tx k h h2 hb3) ((hc1.tr hc2).tr hc3)
    · exact hK _ _ w2 (.ok s ts h h2 (hD.ch0 hc2) he) (hc1.tr hc2)
end Go.Proofs.YtlnhecbgjjglfaaDoor
