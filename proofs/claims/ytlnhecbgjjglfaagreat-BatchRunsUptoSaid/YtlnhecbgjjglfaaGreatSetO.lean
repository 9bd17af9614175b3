/- SetO: a list of sets that was handed out (for a seat without the shelf). -/
import Derived.Test.YtlnhecbgjjglfaaGreatFr2
import Derived.Test.YtlnhecbgjjglfaaGreatInsB
set_option linter.unusedVariables false
set_option linter.unusedSimpArgs false
namespace Go.Pl
open Go Go.Sh Go.RowKit
def slV (s : Slc) : Value := .slice s.a s.l s.c
end Go.Pl
namespace Go.Proofs.YtlnhecbgjjglfaaGreat
open Go Go.Sh Go.Pl Go.RowKit
theorem TKK : ElT Tryz.prog 41 44 (.slice none 0 0) 1 24 := ⟨by kernel_rfl, by kernel_rfl, rfl, by decide⟩
/-- A list of sets that was handed out, all of it memory of its own. -/
structure SetsO (lo hi : Nat) (w : World) (l : Slc) (rows : List Slc) (vss : List (List Value)) : Prop where
  own : Own w 44 1 l (rows.map slV)
  len : rows.length = vss.length
  row : ∀ (i : Nat) (r : Slc) (vs : List Value), rows[i]? = some r → vss[i]? = some vs → Own w 87 2 r vs
  inl : ∀ k, blkOf l = some k → lo ≤ k ∧ k < hi
  inr : ∀ (i : Nat) (r : Slc) (k : Nat), rows[i]? = some r → blkOf r = some k → lo ≤ k ∧ k < hi
  dl : ∀ (i : Nat) (r : Slc) (k : Nat), rows[i]? = some r → blkOf r = some k → blkOf l ≠ some k
  dr : ∀ (i j : Nat) (r q : Slc) (k : Nat), rows[i]? = some r → rows[j]? = some q → blkOf r = some k → blkOf q = some k → i = j
theorem SetsO.chg {lo hi : Nat} {S : Nat → Prop} {w w' : World} {l : Slc} {rows : List Slc} {vss : List (List Value)} (h : SetsO lo hi w l rows vss) (hc : Chg S w w') (hS : ∀ k, lo ≤ k → k < hi → ¬ S k) : SetsO lo hi w' l rows vss :=
  ⟨h.own.chg hc fun k hk => hS k (h.inl k hk).1 (h.inl k hk).2, h.len, fun i r vs h1 h2 => (h.row i r vs h1 h2).chg hc fun k hk => hS k (h.inr i r k h1 hk).1 (h.inr i r k h1 hk).2, h.inl, h.inr, h.dl, h.dr⟩
end Go.Proofs.YtlnhecbgjjglfaaGreat
