/- Row: from a law's contract to the row's statement: what is the same for every law. -/
import Derived.Test.YthgkehldimldgaaDoorRows
import Derived.Test.YthgkehldimldgaaDoorPl
import Derived.WalkKit
import Derived.ProofKit
import Derived.OpenShut
import Derived.SizedLaws
import Derived.Deep.DeepHandedRow
import Derived.Lib.LaidTab
set_option linter.unusedVariables false
set_option linter.unusedSimpArgs false
namespace Go.Row
open Go Go.Sh Go.Pl Go.ChangeShapes Go.WideShapes Go.ChangeAt Go.RowKit
section
variable {H : Type} {enc : TypeId × Value → H} {P : Program}

theorem trodAll_below (hl : laidOutB P = true) {W W' : World} (hb : Below W.heap.size W W') : ∀ {ts : List TypeId} {vs : List Value} {ds : List (DataW H)} {ps : List MemPlace},
    (∀ t ∈ ts, P.readableRec t = true ∧ t < P.types.size) → DataW.TrodAll enc P W 0 (fun _ => true) true ts vs ds ps → (∀ x ∈ ps, x.block < W.heap.size) →
    DataW.TrodAll enc P W' 0 (fun b => decide (b < W.heap.size)) true ts vs ds ps
  | [], vs, ds, ps, _, h, _ => by
    cases vs <;> cases ds <;> first | exact h | exact h.elim
  | t :: ts, [], ds, ps, _, h, _ => by cases ds <;> exact h.elim
  | t :: ts, v :: vs, [], ps, _, h, _ => h.elim
  | t :: ts, v :: vs, d :: ds, ps, ht, h, hlt => by
    obtain ⟨p, q, h1, h2, rfl⟩ := h
    exact ⟨p, q, Below.trod hl (ht t (by simp)).1 (ht t (by simp)).2 h1 hb (fun x hx => hlt x (by simp [hx])),
      trodAll_below hl hb (fun u hu => ht u (by simp [hu])) h2 (fun x hx => hlt x (by simp [hx])), rfl⟩

/-- The row's end: it answered true, and below the heap's old size nothing has turned. -/
theorem post_true {f : Func} {s : ChangeSpec} {apart : Bool} {W W' : World} {args : Array Value} {ds gs : List (DataW H)} {before : List MemPlace} {tb : TypeId}
    (hl : laidOutB P = true) (hr : ∀ t ∈ f.params.toList, P.readableRec t = true ∧ t < P.types.size)
    (hW : DataW.Whole enc P f.params.toList s.vars apart W args.toList ds gs before) (hvars : s.vars = [])
    (hrt : f.resultTypes = #[tb]) (htb : P.underlying tb = some .bool) (hspec : (s.fn H ds).results = [.lit (.bool true)] ∧ (s.fn H ds).args = ds ∧ (s.fn H ds).vars = [])
    (hb : Below W.heap.size W W') : s.post enc P f apart true false false W args (.bool true) W' := by
  have hlt : ∀ x ∈ before, x.block < W.heap.size := fun x hx => by simpa using hW.lt x hx
  have hW' := hW
  obtain ⟨p, q, hA, hV, rfl, hfz, hnd⟩ := hW
  rw [hvars] at hV
  have hg : gs = [] ∧ q = [] := by
    cases gs with
    | nil => exact ⟨rfl, hV⟩
    | cons g gs => exact hV.elim
  obtain ⟨rfl, rfl⟩ := hg
  refine ⟨ds, [], p ++ [], [], p, [], hW', ?_, ?_, ?_, hb.frame _, fun h => by cases h⟩
  · rw [List.append_nil, hspec.1, hrt]
    exact ⟨[], [], ⟨1, by simp [Value.cells, DataW.trod, htb]⟩, rfl, rfl⟩
  · rw [List.append_nil, hspec.2.1]
    exact trodAll_below hl hb hr hA (fun x hx => hlt x (by simp [hx]))
  · rw [List.append_nil, hspec.2.2, hvars]
    exact rfl

/-- A slice's datum has so many elements; so many places. -/
def LenIs (d : DataW H) (n c : Nat) : Prop := (d = .nil ∧ n = 0 ∧ c = 0) ∨ ∃ el sp, d = .slice el sp ∧ el.length = n ∧ el.length + sp.length = c
def toU8 (n : Int) : UInt8 := UInt8.ofNat n.toNat
theorem toU8_toNat {n : Int} (h : (Lit.int .u8 n).wf = true) : ((toU8 n).toNat : Int) = n := by
  have hx : 0 ≤ n ∧ n ≤ 255 := by simpa [Lit.wf, IntKind.min, IntKind.max, IntKind.signed, IntKind.bits] using h
  have h2 : n.toNat < 256 := by omega
  unfold toU8
  rw [UInt8.toNat_ofNat', Nat.mod_eq_of_lt h2]
  omega
theorem U8_of (zs : List Int) (h : ∀ n ∈ zs, (Lit.int .u8 n).wf = true) : zs.map (Value.int .u8) = U8 (zs.map toU8) := by
  unfold U8
  rw [List.map_map]
  exact List.map_congr_left fun n hn => by simp only [Function.comp]; rw [toU8_toNat (h n hn)]
/-- A []byte that came in. -/
theorem bytes_of_trod {w : World} {base : Nat} {held : Bool} {t e : TypeId} {fuel : Nat} {cs : List Value} {x : DataW H × List MemPlace} (ht : P.underlying t = some (.slice e)) (he : P.underlying e = some (.int .u8)) (hc : P.cellsOf e = 1)
    (h : DataW.trod enc P w base (fun _ => true) held fuel t cs = some x) :
    ∃ (s : Slc) (bs : List UInt8), cs = [.slice s.a s.l s.c] ∧ Rd w s (U8 bs) ∧ (s.a = none → s.l = 0 ∧ s.c = 0) ∧ LenIs x.1 bs.length s.c := by
  rcases open_ints ht he hc h with ⟨rfl, rfl⟩ | ⟨a, len, cap, zs, rfl, _, hlc, hm, hz, rfl, hcell, hwf⟩
  · exact ⟨⟨none, 0, 0⟩, [], rfl, Rd.nil _ _, fun _ => ⟨rfl, rfl⟩, .inl ⟨rfl, rfl, rfl⟩⟩
  · simp only [if_true] at hz
    refine ⟨⟨some a, len, cap⟩, (zs.take len).map toU8, rfl, ⟨by simp [hz, hlc], hlc, fun i hi => ⟨a, rfl, ?_⟩⟩, fun h => (by cases h), .inr ⟨_, _, rfl, by simp [lits], by simp [lits]; omega⟩⟩
    have hi' : i < len := by simp at hi; omega
    rw [hcell i (by omega), ← U8_of _ (fun n hn => hwf n (List.mem_of_mem_take hn)), List.getElem?_map, List.getElem?_take, if_pos hi']
    have : zs[i]? = some (zs.getD i 0) := by simp [List.getD, show i < zs.length by omega]
    rw [this]
    rfl
theorem open_bytes {w : World} {base : Nat} {held : Bool} {r : Reach} {b0 : Nat} {t e : TypeId} {v : Value} {d : DataW H} {ps : List MemPlace} (ht : P.underlying t = some (.slice e)) (he : P.underlying e = some (.int .u8)) (hc : P.cellsOf e = 1)
    (hval : Value.okWide P w r b0 t v) (hd : DataW.Trod enc P w base (fun _ => true) held t v d ps) :
    ∃ (s : Slc) (bs : List UInt8), v = .slice s.a s.l s.c ∧ Rd w s (U8 bs) ∧ (s.a = none → s.l = 0 ∧ s.c = 0) ∧ LenIs d bs.length s.c := by
  obtain ⟨a, l, c, rfl⟩ := okWide_slice ht hval
  obtain ⟨fuel, hf⟩ := hd
  obtain ⟨s, bs, h1, h2, h3, h4⟩ := bytes_of_trod ht he hc hf
  simp only [Value.cells] at h1
  have : Value.slice a l c = .slice s.a s.l s.c := by simpa using h1
  exact ⟨s, bs, this, h2, h3, h4⟩
theorem LenIs.reach {ts : List TypeId} {ds : List (DataW H)} (h : (DataW.weightsEach P ts ds).all (· ≤ reachBytes) = true) {j : Nat} {t e : TypeId} {d : DataW H} {n c : Nat} (hd : LenIs d n c) (ht : ts[j]? = some t) (hj : ds[j]? = some d) (hu : P.underlying t = some (.slice e)) (hb : P.bytesOf e = 1) : n ≤ 140737488351232 := by
  rcases hd with ⟨rfl, rfl, rfl⟩ | ⟨el, sp, rfl, h1, h2⟩
  · omega
  · have := sized_slice h ht hj hu
    rw [hb] at this
    have hr : reachBytes = 140737488351232 := by decide
    omega
end
end Go.Row
