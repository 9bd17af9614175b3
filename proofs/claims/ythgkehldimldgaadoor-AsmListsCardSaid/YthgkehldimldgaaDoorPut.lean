/- Put: a program as bytes: lang.Put, the document's Written; the law LangPuts. -/
import Derived.Test.YthgkehldimldgaaDoorPr
import Derived.Test.YthgkehldimldgaaDoorSb
import Derived.Test.YthgkehldimldgaaDoorNum
import Derived.Test.YthgkehldimldgaaDoorGt
set_option linter.unusedVariables false
set_option linter.unusedSimpArgs false
namespace Go.Lang
open Go.Num
def hdI (a b c d : Int) (n : Nat) : List Int := [a, b, c, d, (n : Int)]
def hdB (l : List Int) : List UInt8 := l.flatMap fun x => encU x.toNat
def insB (x : Int × Int) : List UInt8 := if x.2 = 0 then [UInt8.ofNat x.1.toNat] else UInt8.ofNat (x.1.toNat + 64) :: encU (zig x.2)
def opOk (x : Int × Int) : Bool := decide (0 ≤ x.1 ∧ x.1 ≤ 36)
def putT (a b c d : Int) (l : List (Int × Int)) : List UInt8 × Int := if okP a b c d l.length = false then ([], 30) else if l.all opOk = false then ([], 31) else (hdB (hdI a b c d l.length) ++ l.flatMap insB, 0)
def I64 (l : List (Int × Int)) : Prop := ∀ x ∈ l, (-9223372036854775808 ≤ x.1 ∧ x.1 ≤ 9223372036854775807) ∧ (-9223372036854775808 ≤ x.2 ∧ x.2 ≤ 9223372036854775807)
theorem insB_len {x : Int × Int} (h : -9223372036854775808 ≤ x.2 ∧ x.2 ≤ 9223372036854775807) : (insB x).length ≤ 11 := by
  unfold insB
  split
  · simp
  · have := encU_ten _ (zig_lt h)
    simp; omega
theorem body_len {l : List (Int × Int)} (h : I64 l) : (l.flatMap insB).length ≤ 11 * l.length := by
  induction l with
  | nil => simp
  | cons x l ih =>
    have := ih fun y hy => h y (by simp [hy])
    have := insB_len (h x (by simp)).2
    simp only [List.flatMap_cons, List.length_append, List.length_cons]; omega
theorem I64.take {l : List (Int × Int)} (h : I64 l) (i : Nat) : I64 (l.take i) := fun x hx => h x (List.mem_of_mem_take hx)
theorem hdB_len {l : List Int} (h : ∀ x ∈ l, 0 ≤ x ∧ x ≤ 256) : (hdB l).length ≤ 10 * l.length := by
  unfold hdB
  induction l with
  | nil => simp
  | cons x l ih =>
    have := ih fun y hy => h y (by simp [hy])
    have h1 := h x (by simp)
    have := encU_ten x.toNat (by omega)
    simp only [List.flatMap_cons, List.length_append, List.length_cons]; omega
theorem hdI_ok {a b c d : Int} {n : Nat} (h : okP a b c d n = true) : ∀ x ∈ hdI a b c d n, 0 ≤ x ∧ x ≤ 256 := by
  simp [okP] at h
  simp [hdI]
  omega
theorem okP_le {a b c d : Int} {n : Nat} (h : okP a b c d n = true) : n ≤ 256 := by
  simp [okP] at h
  omega
theorem hdI_arr (a b c d : Int) (n : Nat) : (#[.int .i64 a, .int .i64 b, .int .i64 c, .int .i64 d, .int .i64 (n : Int)] : Array Go.Value) = ((hdI a b c d n).map (Go.Value.int .i64)).toArray := rfl
end Go.Lang
namespace Go.Proofs.YthgkehldimldgaaDoor
open Go Go.Sh Go.Pl Go.RowKit Go.Lang Go.Num Go.Gt
end Go.Proofs.YthgkehldimldgaaDoor
