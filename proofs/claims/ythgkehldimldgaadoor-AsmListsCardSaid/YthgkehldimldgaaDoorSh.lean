/- Sh: what a piece of code does, as a formula that the kernel reckons out: the formula's definition, and that it is sound for the walk's own 'Code.wp'. -/
import Derived.WalkKit
import Derived.KernelRfl
import Derived.OrdersHeld
import Derived.Scope
import Derived.Recover
set_option linter.unusedVariables false
set_option linter.unusedSimpArgs false
namespace Go.Sh

/-! ### 1. Small formulas -/
def iteB (b : Bool) (X Y : Prop) : Prop := match b with | true => X | false => Y
def nnP (p : Option Addr) (K : Addr → Prop) : Prop := ∃ ad, p = some ad ∧ K ad
structure Slc where
  a : Option Addr
  l : Nat
  c : Nat
def Slc.v (s : Slc) : Value := .slice s.a s.l s.c
def idxP (a : Option Addr) (l : Nat) (i : Int) (sz : Nat) (K : Addr → Prop) : Prop := 0 ≤ i ∧ i < (l : Int) ∧ ∃ ad, a = some ad ∧ K (ad.add (i.toNat * sz))
def arrP (n : Nat) (i : Int) (K : Prop) : Prop := 0 ≤ i ∧ i < (n : Int) ∧ K
def chP (s : ByteArray) (i : Int) (K : Int → Prop) : Prop := 0 ≤ i ∧ ∃ b : UInt8, s[i.toNat]? = some b ∧ K (b.toNat : Int)
def slP (a : Option Addr) (l c : Nat) (lo hi : Option Int) (sz : Nat) (K : Option Addr → Nat → Nat → Prop) : Prop :=
  0 ≤ lo.getD 0 ∧ lo.getD 0 ≤ hi.getD (l : Int) ∧ hi.getD (l : Int) ≤ (c : Int) ∧
    K (if c = (lo.getD 0).toNat then a else a.map (·.add ((lo.getD 0).toNat * sz))) ((hi.getD (l : Int)).toNat - (lo.getD 0).toNat) (c - (lo.getD 0).toNat)
def strP (s : ByteArray) (lo hi : Option Int) (K : ByteArray → Prop) : Prop :=
  0 ≤ lo.getD 0 ∧ lo.getD 0 ≤ hi.getD (s.size : Int) ∧ hi.getD (s.size : Int) ≤ (s.size : Int) ∧ K (s.extract (lo.getD 0).toNat (hi.getD (s.size : Int)).toNat)
def dzP (y : Int) (K : Prop) : Prop := y ≠ 0 ∧ K
def shP (y : Int) (K : Prop) : Prop := 0 ≤ y ∧ K
def catP (x y : ByteArray) (K : Prop) : Prop := ((x.size + y.size : Nat) : Int) ≤ IntKind.i64.max ∧ K

def nilI (v : Value) (K : Bool → Prop) : Prop := match v with | .nilIface => K true | .iface _ _ => K false | _ => False

/-! ### 2. Kinds -/
inductive Kd where
  | int (k : IntKind)
  | b | str | ptr | sl | map | any | fn
/-- A function value that is not nil. -/
structure Fnv where
  f : Fn
  fs : Array Value
  cs : Array Value
abbrev KT : Kd → Type
  | .int _ => Int
  | .b => Bool
  | .str => ByteArray
  | .ptr => Option Addr
  | .sl => Slc
  | .map => Option Nat
  | .any => Value
  | .fn => Fnv
def kdOf : TypeDesc → Option Kd
  | .bool => some .b
  | .int k => some (.int k)
  | .string => some .str
  | .pointer _ => some .ptr
  | .slice _ => some .sl
  | .map _ _ => some .map
  | .func _ _ _ => some .any
  | .interface _ => some .any
  | .chan _ _ => some .any
  | _ => none
def leaves (P : Program) : Nat → TypeId → Option (List Kd)
  | 0, _ => none
  | n + 1, t => match P.underlying t with
    | some (.struct fs) => fs.toList.foldr (fun f acc => match leaves P n f.type, acc with | some a, some r => some (a ++ r) | _, _ => none) (some [])
    | some (.array len e) => match leaves P n e with | some a => some (List.replicate len a).flatten | none => none
    | some d => match kdOf d with | some k => some [k] | none => none
    | none => none
def isAggB (P : Program) (t : TypeId) : Bool := match P.underlying t with | some (.struct _) => true | some (.array _ _) => true | _ => false
/-- The kinds of a type's cells; is it a struct or an array? -/
def kindsOf (P : Program) (t : TypeId) : Option (Bool × List Kd) :=
  match leaves P 12 t, P.info? t with
  | some ks, some i => match Nat.beq i.size ks.length with | true => some (isAggB P t, ks) | false => none
  | _, _ => none
/-- Some value of a kind. -/
def exv : Kd → (Value → Prop) → Prop
  | .int k, K => ∃ n : Int, K (.int k n)
  | .b, K => ∃ x : Bool, K (.bool x)
  | .str, K => ∃ s : ByteArray, K (.string s)
  | .ptr, K => ∃ p : Option Addr, K (.pointer p)
  | .sl, K => ∃ s : Slc, K (.slice s.a s.l s.c)
  | .map, K => ∃ r : Option Nat, K (.map r)
  | .any, K => ∃ v : Value, K v
  | .fn, K => ∃ v : Fnv, K (.func v.f v.fs v.cs)
def exvs : List Kd → (List Value → Prop) → Prop
  | [], K => K []
  | k :: ks, K => exv k fun v => exvs ks fun vs => K (v :: vs)
/-- Some value of a type. -/
def exT (P : Program) (t : TypeId) (K : Value → Prop) : Prop :=
  match kindsOf P t with
  | some (false, [k]) => exv k K
  | some (true, ks) => exvs ks fun vs => K (.agg vs.toArray)
  | _ => False
def exTs (P : Program) : List TypeId → (List Value → Prop) → Prop
  | [], K => K []
  | t :: ts, K => exT P t fun v => exTs P ts fun vs => K (v :: vs)
def exR (P : Program) (t : TypeId) (K : Value → Prop) : Prop :=
  match P.underlying t with
  | some (.tuple ts) => exTs P ts.toList fun vs => K (.tuple vs.toArray)
  | some (.func _ _ _) => exv .fn K
  | _ => exT P t K

/-! ### 3. Memory -/
def ldI (k : IntKind) (ad : Addr) (w : World) (K : Int → Prop) : Prop := ∃ n, w.cell? ad = some (.int k n) ∧ K n
def ldB (ad : Addr) (w : World) (K : Bool → Prop) : Prop := ∃ n, w.cell? ad = some (.bool n) ∧ K n
def ldStr (ad : Addr) (w : World) (K : ByteArray → Prop) : Prop := ∃ n, w.cell? ad = some (.string n) ∧ K n
def ldP (ad : Addr) (w : World) (K : Option Addr → Prop) : Prop := ∃ n, w.cell? ad = some (.pointer n) ∧ K n
def ldS (ad : Addr) (w : World) (K : Slc → Prop) : Prop := ∃ s : Slc, w.cell? ad = some (.slice s.a s.l s.c) ∧ K s
def ldM (ad : Addr) (w : World) (K : Option Nat → Prop) : Prop := ∃ n, w.cell? ad = some (.map n) ∧ K n
def ldV (ad : Addr) (w : World) (K : Value → Prop) : Prop := ∃ n, w.cell? ad = some n ∧ K n
def ldK (k : Kd) (ad : Addr) (w : World) (K : Value → Prop) : Prop :=
  match k with
  | .int k => ldI k ad w fun n => K (.int k n)
  | .b => ldB ad w fun n => K (.bool n)
  | .str => ldStr ad w fun n => K (.string n)
  | .ptr => ldP ad w fun n => K (.pointer n)
  | .sl => ldS ad w fun s => K (.slice s.a s.l s.c)
  | .map => ldM ad w fun n => K (.map n)
  | .any => ldV ad w K
  | .fn => ∃ v : Fnv, w.cell? ad = some (.func v.f v.fs v.cs) ∧ K (.func v.f v.fs v.cs)
def ldKs : List Kd → Addr → Nat → World → (List Value → Prop) → Prop
  | [], _, _, _, K => K []
  | k :: ks, ad, i, w, K => ldK k (ad.add i) w fun v => ldKs ks ad (i + 1) w fun vs => K (v :: vs)
/-- The cells at an address hold these values. -/
def holds : List Value → Addr → Nat → World → Prop
  | [], _, _, _ => True
  | v :: vs, ad, i, w => w.cell? (ad.add i) = some v ∧ holds vs ad (i + 1) w
/-- A load: the value, and what keeps it. -/
def shLoad (P : Program) (t : TypeId) (v : Value) (w : World) (K : Value → (World → Prop) → Prop) : Prop :=
  match v with
  | .pointer (some ad) => match kindsOf P t with
    | some (false, [k]) => ldK k ad w fun v => K v fun w' => w'.cell? ad = some v
    | some (true, ks) => ldKs ks ad 0 w fun vs => K (.agg vs.toArray) (holds vs ad 0)
    | _ => False
  | _ => False
def stP (ad : Addr) (v : Value) (w : World) (K : World → Prop) : Prop := (∃ u, w.cell? ad = some u) ∧ w.frozen? ad = false ∧ K (w.setCell ad v)
def stPs : List Value → Addr → Nat → World → (World → Prop) → Prop
  | [], _, _, w, K => K w
  | v :: vs, ad, i, w, K => iteB v.oneCell' (stP (ad.add i) v w fun w' => stPs vs ad (i + 1) w' K) False
def shStore (P : Program) (t : TypeId) (a v : Value) (w : World) (K : World → Prop) : Prop :=
  match a with
  | .pointer (some ad) => match P.info? t with
    | some i => iteB (Nat.beq v.cells.size i.size) (stPs v.cells.toList ad 0 w K) False
    | none => False
  | _ => False
def newP (cells : Array Value) (t : TypeId) (w : World) (K : Addr → World → Prop) : Prop := K ⟨w.heap.size, 0, none⟩ (w.alloc (.cells cells t))

/-! ### 4. Pieces that look at no memory -/
def pureS {α : Type} (P : Program) : Sem α → (α → Prop) → Prop
  | .pure a, K => K a
  | .program k, K => pureS P (k P) K
  | _, _ => False
theorem pureS_sound {α : Type} {P : Program} : ∀ (s : Sem α) {K : α → Prop}, pureS P s K → ∃ a, (∀ w, s.run P w = .ok a w) ∧ K a
  | .pure a, K, h => ⟨a, fun _ => rfl, h⟩
  | .program k, K, h => by
    obtain ⟨a, h1, h2⟩ := pureS_sound (k P) (K := K) h
    exact ⟨a, fun w => h1 w, h2⟩
  | .load .., _, h => h.elim
  | .store .., _, h => h.elim
  | .new .., _, h => h.elim
  | .shape .., _, h => h.elim
  | .freeze .., _, h => h.elim
  | .frozen .., _, h => h.elim
  | .getObj .., _, h => h.elim
  | .setObj .., _, h => h.elim
  | .choose .., _, h => h.elim
  | .sys .., _, h => h.elim
  | .mark .., _, h => h.elim
  | .halt .., _, h => h.elim
/-- Pieces that make blocks and look at the program alone. -/
def newS {α : Type} (P : Program) : Sem α → (α → World → Prop) → World → Prop
  | .pure a, K, w => K a w
  | .program k, K, w => newS P (k P) K w
  | .new o k, K, w => newS P (k w.heap.size) K (w.alloc o)
  | .mark _ k, K, w => newS P k K w
  | _, _, _ => False
theorem newS_sound {α : Type} {P : Program} : ∀ (s : Sem α) {K : α → World → Prop} {w : World}, newS P s K w → ∃ a w', s.run P w = .ok a w' ∧ K a w'
  | .pure a, K, w, h => ⟨a, w, rfl, h⟩
  | .program k, K, w, h => newS_sound (k P) (K := K) h
  | .new o k, K, w, h => newS_sound (k w.heap.size) (K := K) h
  | .mark _ k, K, w, h => newS_sound k (K := K) h
  | .load .., _, _, h => h.elim
  | .store .., _, _, h => h.elim
  | .shape .., _, _, h => h.elim
  | .freeze .., _, _, h => h.elim
  | .frozen .., _, _, h => h.elim
  | .getObj .., _, _, h => h.elim
  | .setObj .., _, _, h => h.elim
  | .choose .., _, _, h => h.elim
  | .sys .., _, _, h => h.elim
  | .halt .., _, _, h => h.elim

abbrev Env := List (Nat × Value)
def Env.get? : Env → Nat → Option Value
  | [], _ => none
  | (k, v) :: e, t => match Nat.beq k t with | true => some v | false => Env.get? e t
def ev (e : Env) : Operand → Option Value
  | .tmp t => e.get? t
  | .const v => some v
  | .global g => some (.pointer (some ⟨g, 0, none⟩))
  | .func f => some (.func (.func f) #[] #[])
def evd (e : Env) (x : Operand) : Value := match ev e x with | some v => v | none => undef
def oi : Option Value → Option (Option Int)
  | none => some none
  | some (.int _ n) => some (some n)
  | some _ => none
/-- Is it sure that the value is or is not the nil of an interface's type? -/
def isNilI : Value → Bool
  | .nilIface => true
  | _ => false

def nilCmp : BinOp → Operand → Option TypeDesc → Option Bool
  | .eql, .const .nilIface, some (.interface _) => some true
  | .neq, .const .nilIface, some (.interface _) => some false
  | _, _, _ => none
def shBin (P : Program) (o : Oper) (op : BinOp) (t : TypeId) (x y : Value) (e : Env) (K : Value → Prop) : Prop :=
  match op, x, y with
  | .quo, .int k a, .int k' b => iteB (decide (k = k')) (dzP b (K (.int k (k.wrap (a.tdiv b))))) False
  | .rem, .int k a, .int k' b => iteB (decide (k = k')) (dzP b (K (.int k (a.tmod b)))) False
  | .shl, .int k a, .int _ b => shP b (K (.int k (k.wrap (a * 2 ^ (min b.toNat k.bits)))))
  | .shr, .int k a, .int _ b => shP b (K (.int k (a.fdiv (2 ^ (min b.toNat k.bits)))))
  | .add, .string a, .string b => catP a b (K (.string (a ++ b)))
  | .eql, .pointer p, .pointer none => match P.underlying t with | some (.pointer _) => K (.bool p.isNone) | _ => False
  | .neq, .pointer p, .pointer none => match P.underlying t with | some (.pointer _) => K (.bool (!p.isNone)) | _ => False
  | .eql, .slice a _ _, .slice none _ _ => match P.underlying t with | some (.slice _) => K (.bool a.isNone) | _ => False
  | .neq, .slice a _ _, .slice none _ _ => match P.underlying t with | some (.slice _) => K (.bool (!a.isNone)) | _ => False
  | _, _, _ => pureS P (execOp (evd e) o) fun n => match n with | .value v => K v | _ => False

/-- An operation that looks at no memory and makes none. -/
def shPure (P : Program) (o : Oper) (e : Env) (K : Value → Prop) : Prop :=
  match o.op with
  | .move x => K (evd e x)
  | .assign x => K (evd e x)
  | .pick c a b => match evd e c with | .bool t => iteB t (K (evd e a)) (K (evd e b)) | _ => False
  | .nilCheck x => match evd e x with
    | .pointer p => nnP p fun ad => K (.pointer (some ad))
    | .func (.func f) fs cs => K (.func (.func f) fs cs)
    | _ => False
  | .indexAddr t x ix => match P.underlying t, evd e x, evd e ix with
    | some (.slice el), .slice a l _, .int _ i => match P.info? el with
      | some info => idxP a l i info.size fun ad => K (.pointer (some ad))
      | none => False
    | some (.array n el), .pointer (some a), .int _ i => match P.info? el with
      | some info => arrP n i (K (.pointer (some (a.add (i.toNat * info.size)))))
      | none => False
    | _, _, _ => False
  | .index t x ix => match P.underlying t, evd e x, evd e ix with
    | some .string, .string s, .int _ i => chP s i fun b => K (.int .u8 b)
    | _, _, _ => pureS P (execOp (evd e) o) fun n => match n with | .value v => K v | _ => False
  | .slice t x lo hi none => match P.underlying t, evd e x, oi (lo.map (evd e)), oi (hi.map (evd e)) with
    | some (.slice el), .slice a l c, some lo, some hi => match P.info? el with
      | some info => slP a l c lo hi info.size fun a l c => K (.slice a l c)
      | none => False
    | some .string, .string s, some lo, some hi => strP s lo hi fun s => K (.string s)
    | some (.array n el), .pointer (some a), some none, some none => match P.info? el with
      | some _ => K (.slice (some a) n n)
      | none => False
    | _, _, _, _ => False
  | .binOp op t x y _ => match nilCmp op y (P.underlying t) with
    | some true => nilI (evd e x) fun b => K (.bool b)
    | some false => nilI (evd e x) fun b => K (.bool (!b))
    | none => shBin P o op t (evd e x) (evd e y) e K
  | .call { callee := .builtin .len, args, argTypes } => match args.toList, argTypes.toList with
    | [x], t :: _ => match P.underlying t, evd e x with
      | some (.slice _), .slice _ l _ => K (.int .i64 l)
      | some .string, .string s => K (.int .i64 s.size)
      | _, _ => False
    | _, _ => False
  | _ => pureS P (execOp (evd e) o) fun n => match n with | .value v => K v | _ => False

theorem run_underlying' {P : Program} {t : TypeId} {d : TypeDesc} (h : P.underlying t = some d) (w : World) : (underlying t).run P w = .ok d w := by
  simp [underlying, h]
theorem run_typeInfo' {P : Program} {t : TypeId} {i : TypeInfo} (h : P.info? t = some i) (w : World) : (typeInfo t).run P w = .ok i w := by
  simp [typeInfo, h]
theorem run_sizeOf' {P : Program} {t : TypeId} {i : TypeInfo} (h : P.info? t = some i) (w : World) : (sizeOf t).run P w = .ok i.size w := by
  simp [sizeOf, run_typeInfo' h]
theorem pureDef {P : Program} {o : Oper} {ρ : Operand → Value} {K : Value → Prop} (h : pureS P (execOp ρ o) fun n => match n with | .value v => K v | _ => False) :
    ∃ v, (∀ w, (execOp ρ o).run P w = .ok (.value v) w) ∧ K v := by
  obtain ⟨n, h1, h2⟩ := pureS_sound _ h
  cases n <;> first | exact ⟨_, h1, h2⟩ | exact h2.elim

theorem run_equal_ptr {P : Program} {t el : TypeId} (h : P.underlying t = some (.pointer el)) (p : Option Addr) (w : World) :
    (Op.equal t (.pointer p) (.pointer none)).run P w = .ok p.isNone w := by
  show (Op.equalIn (9999 + 1) t (.pointer p) (.pointer none)).run P w = _
  unfold Op.equalIn
  rw [Sem.run_bind, run_underlying' h]
  cases p <;> rfl
theorem run_equal_sl {P : Program} {t el : TypeId} (h : P.underlying t = some (.slice el)) (a : Option Addr) (l c l' c' : Nat) (w : World) :
    (Op.equal t (.slice a l c) (.slice none l' c')).run P w = .ok a.isNone w := by
  show (Op.equalIn (9999 + 1) t (.slice a l c) (.slice none l' c')).run P w = _
  unfold Op.equalIn
  rw [Sem.run_bind, run_underlying' h]
  cases a <;> rfl

theorem run_equal_nil {P : Program} {t : TypeId} {ms : Array _} (h : P.underlying t = some (.interface ms)) (w : World) : (Op.equal t .nilIface .nilIface).run P w = .ok true w := by
  show (Op.equalIn (9999 + 1) t .nilIface .nilIface).run P w = _
  unfold Op.equalIn
  rw [Sem.run_bind, run_underlying' h]
  rfl
theorem run_equal_ifn {P : Program} {t u : TypeId} {x : Value} {ms : Array _} (h : P.underlying t = some (.interface ms)) (w : World) : (Op.equal t (.iface u x) .nilIface).run P w = .ok false w := by
  show (Op.equalIn (9999 + 1) t (.iface u x) .nilIface).run P w = _
  unfold Op.equalIn
  rw [Sem.run_bind, run_underlying' h]
  rfl
theorem shBin_sound {P : Program} {o : Oper} {e : Env} {K : Value → Prop} {op : BinOp} {t : TypeId} {x y : Operand} {yt : TypeId} (ho : o.op = .binOp op t x y yt)
    (h : shBin P o op t (evd e x) (evd e y) e K) : ∃ v, (∀ w, (execOp (evd e) o).run P w = .ok (.value v) w) ∧ K v := by
  unfold shBin at h
  split at h
  all_goals first
    | exact pureDef h
    | skip
  all_goals rename_i hx hy
  · rename_i k a k' b
    by_cases hk : k = k' <;> simp only [hk, decide_true, decide_false, iteB] at h
    obtain ⟨hb, h⟩ := h
    exact ⟨_, fun w => by simp [execOp, ho, hx, hy, eqGuard, binOp, Op.intDiv, hk, hb], h⟩
  · rename_i k a k' b
    by_cases hk : k = k' <;> simp only [hk, decide_true, decide_false, iteB] at h
    obtain ⟨hb, h⟩ := h
    exact ⟨_, fun w => by simp [execOp, ho, hx, hy, eqGuard, binOp, Op.intDiv, hk, hb], h⟩
  · obtain ⟨hb, h⟩ := h
    exact ⟨_, fun w => by simp [execOp, ho, hx, hy, eqGuard, binOp, Op.shift, Int.not_lt.2 hb], h⟩
  · obtain ⟨hb, h⟩ := h
    exact ⟨_, fun w => by simp [execOp, ho, hx, hy, eqGuard, binOp, Op.shift, Int.not_lt.2 hb], h⟩
  · obtain ⟨hb, h⟩ := h
    rename_i a b
    have hb' : ¬ ((a.size + b.size : Nat) : Int) > IntKind.i64.max := by omega
    have hr : ∀ w, (Op.stringOp .add a b).run P w = .ok (.string (a ++ b)) w := fun w => by
      unfold Op.stringOp
      simp only [hb', if_false]
      rfl
    exact ⟨_, fun w => by simp [execOp, ho, hx, hy, eqGuard, binOp, hr], h⟩
  all_goals
    split at h
    · rename_i d hd
      refine ⟨_, fun w => ?_, h⟩
      simp only [execOp, ho, hx, hy, eqGuard, binOp]
      first
        | simp [run_equal_ptr hd]
        | simp [run_equal_sl hd]
    · exact h.elim
theorem nilCmp_spec {op : BinOp} {y : Operand} {d : Option TypeDesc} {b : Bool} (h : nilCmp op y d = some b) : op = (if b then .eql else .neq) ∧ y = .const .nilIface ∧ ∃ ms, d = some (.interface ms) := by
  unfold nilCmp at h
  split at h
  · cases h; exact ⟨rfl, rfl, _, rfl⟩
  · cases h; exact ⟨rfl, rfl, _, rfl⟩
  · cases h
theorem nilCmp_sound {P : Program} {o : Oper} {e : Env} {K : Value → Prop} {op : BinOp} {t : TypeId} {x y : Operand} {yt : TypeId} {b : Bool} (ho : o.op = .binOp op t x y yt)
    (hn : nilCmp op y (P.underlying t) = some b) (h : nilI (evd e x) fun r => K (.bool (if b then r else !r))) : ∃ v, (∀ w, (execOp (evd e) o).run P w = .ok (.value v) w) ∧ K v := by
  obtain ⟨h1, h2, ms, hd⟩ := nilCmp_spec hn
  subst h2
  unfold nilI at h
  have hy : evd e (.const .nilIface) = .nilIface := rfl
  split at h
  · rename_i hx
    refine ⟨_, fun w => ?_, h⟩
    simp only [execOp, ho, hx, hy, eqGuard, binOp]
    cases b <;> simp [run_equal_nil hd, h1]
  · rename_i hx
    refine ⟨_, fun w => ?_, h⟩
    simp only [execOp, ho, hx, hy, eqGuard, binOp]
    cases b <;> simp [run_equal_ifn hd, h1]
  · exact h.elim

theorem iteB_cases {b : Bool} {X Y : Prop} (h : iteB b X Y) : (b = true ∧ X) ∨ (b = false ∧ Y) := by cases b <;> simp_all [iteB]

theorem shPure_sound {P : Program} {o : Oper} {e : Env} {K : Value → Prop} (h : shPure P o e K) :
    ∃ v, (∀ w, (execOp (evd e) o).run P w = .ok (.value v) w) ∧ K v := by
  unfold shPure at h
  split at h
  · rename_i x ho; exact ⟨_, fun w => by simp [execOp, ho], h⟩
  · rename_i x ho; exact ⟨_, fun w => by simp [execOp, ho], h⟩
  · rename_i c a b ho
    split at h
    · rename_i t hc
      rcases iteB_cases h with ⟨rfl, h⟩ | ⟨rfl, h⟩
      · exact ⟨_, fun w => by simp [execOp, ho, hc, asBool], h⟩
      · exact ⟨_, fun w => by simp [execOp, ho, hc, asBool], h⟩
    · exact h.elim
  · rename_i x ho
    split at h
    · rename_i p hp
      obtain ⟨ad, rfl, h⟩ := h
      exact ⟨_, fun w => by simp [execOp, ho, hp], h⟩
    · rename_i f fs cs hp
      exact ⟨_, fun w => by simp [execOp, ho, hp], h⟩
    · exact h.elim
  · rename_i t x ix ho
    split at h
    · rename_i el a l c k i hu hx hi
      split at h
      · rename_i info hinfo
        obtain ⟨h0, h1, ad, rfl, h⟩ := h
        exact ⟨_, fun w => by simp [execOp, ho, hx, hi, Instr.indexAt, asIntOf, run_underlying' hu, h0, h1, run_sizeOf' hinfo], h⟩
      · exact h.elim
    · rename_i n el a k i hu hx hi
      split at h
      · rename_i info hinfo
        obtain ⟨h0, h1, h⟩ := h
        exact ⟨_, fun w => by simp [execOp, ho, hx, hi, Instr.indexAt, Instr.sureAddr, asIntOf, run_underlying' hu, h0, h1, run_sizeOf' hinfo], h⟩
      · exact h.elim
    · exact h.elim
  · rename_i t x ix ho
    split at h
    · rename_i s k i hu hx hi
      obtain ⟨h0, b, hb, h⟩ := h
      exact ⟨_, fun w => by simp [execOp, ho, hx, hi, Instr.index, asIntOf, run_underlying' hu, h0, hb], h⟩
    · exact pureDef h
  · rename_i t x lo hi ho
    split at h
    · rename_i el a l c lo' hi' hu hx hlo hhi
      split at h
      · rename_i info hinfo
        obtain ⟨h0, h1, h2, h⟩ := h
        refine ⟨_, fun w => ?_, h⟩
        simp only [execOp, ho, hx, Instr.sliceAt, Sem.run_bind, run_underlying' hu, Result.andThen_ok, Instr.slice]
        cases lo with
        | none =>
          simp only [Option.map_none, oi, Option.some.injEq] at hlo; subst hlo
          cases hi with
          | none =>
            simp only [Option.map_none, oi, Option.some.injEq] at hhi; subst hhi
            simp [Instr.sliceBounds, run_underlying' hu, run_sizeOf' hinfo]
          | some hi =>
            simp only [Option.map_some] at hhi ⊢
            generalize evd e hi = vh at *
            cases vh <;> simp only [oi, Option.some.injEq, reduceCtorEq] at hhi; subst hhi
            simp only [Option.getD_some, Option.getD_none] at h0 h1 h2
            simp [Instr.sliceBounds, Instr.sliceBound, asIntOf, run_underlying' hu, run_sizeOf' hinfo, h1, h2]
        | some lo =>
          simp only [Option.map_some] at hlo ⊢
          generalize evd e lo = vl at *
          cases vl <;> simp only [oi, Option.some.injEq, reduceCtorEq] at hlo; subst hlo
          cases hi with
          | none =>
            simp only [Option.map_none, oi, Option.some.injEq] at hhi; subst hhi
            simp only [Option.getD_some, Option.getD_none] at h0 h1 h2
            simp [Instr.sliceBounds, Instr.sliceBound, asIntOf, run_underlying' hu, run_sizeOf' hinfo, h0, h1]
          | some hi =>
            simp only [Option.map_some] at hhi ⊢
            generalize evd e hi = vh at *
            cases vh <;> simp only [oi, Option.some.injEq, reduceCtorEq] at hhi; subst hhi
            simp only [Option.getD_some, Option.getD_none] at h0 h1 h2
            have h3 := Int.le_trans h0 h1
            simp [Instr.sliceBounds, Instr.sliceBound, asIntOf, run_underlying' hu, run_sizeOf' hinfo, h0, h2, h3, Int.toNat_of_nonneg h3, h1]
      · exact h.elim
    · rename_i s lo' hi' hu hx hlo hhi
      obtain ⟨h0, h1, h2, h⟩ := h
      refine ⟨_, fun w => ?_, h⟩
      simp only [execOp, ho, hx, Instr.sliceAt, Sem.run_bind, run_underlying' hu, Result.andThen_ok, Instr.slice]
      cases lo with
      | none =>
        simp only [Option.map_none, oi, Option.some.injEq] at hlo; subst hlo
        cases hi with
        | none =>
          simp only [Option.map_none, oi, Option.some.injEq] at hhi; subst hhi
          simp [Instr.sliceBounds, run_underlying' hu]
        | some hi =>
          simp only [Option.map_some] at hhi ⊢
          generalize evd e hi = vh at *
          cases vh <;> simp only [oi, Option.some.injEq, reduceCtorEq] at hhi; subst hhi
          simp only [Option.getD_some, Option.getD_none] at h0 h1 h2
          simp [Instr.sliceBounds, Instr.sliceBound, asIntOf, run_underlying' hu, h1, h2]
      | some lo =>
        simp only [Option.map_some] at hlo ⊢
        generalize evd e lo = vl at *
        cases vl <;> simp only [oi, Option.some.injEq, reduceCtorEq] at hlo; subst hlo
        cases hi with
        | none =>
          simp only [Option.map_none, oi, Option.some.injEq] at hhi; subst hhi
          simp only [Option.getD_some, Option.getD_none] at h0 h1 h2
          simp [Instr.sliceBounds, Instr.sliceBound, asIntOf, run_underlying' hu, h0, h1]
        | some hi =>
          simp only [Option.map_some] at hhi ⊢
          generalize evd e hi = vh at *
          cases vh <;> simp only [oi, Option.some.injEq, reduceCtorEq] at hhi; subst hhi
          simp only [Option.getD_some, Option.getD_none] at h0 h1 h2
          have h3 := Int.le_trans h0 h1
          simp [Instr.sliceBounds, Instr.sliceBound, asIntOf, run_underlying' hu, h0, h2, h3, Int.toNat_of_nonneg h3, h1]
    · rename_i n el a hu hx hlo hhi
      split at h
      · rename_i info hinfo
        have hlo' : lo = none := by
          cases lo with
          | none => rfl
          | some x => simp only [Option.map_some] at hlo; cases hv : evd e x <;> rw [hv] at hlo <;> simp [oi] at hlo
        have hhi' : hi = none := by
          cases hi with
          | none => rfl
          | some x => simp only [Option.map_some] at hhi; cases hv : evd e x <;> rw [hv] at hhi <;> simp [oi] at hhi
        subst hlo'; subst hhi'
        refine ⟨_, fun w => ?_, h⟩
        have h0 : a.add 0 = a := rfl
        simp [execOp, ho, hx, Instr.sliceAt, run_underlying' hu, Instr.sureAddr, Instr.sliceBounds, run_sizeOf' hinfo, h0]
      · exact h.elim
    · exact h.elim
  · rename_i op t x y yt ho
    split at h
    · rename_i hn; exact nilCmp_sound ho hn h
    · rename_i hn; exact nilCmp_sound ho hn h
    · exact shBin_sound ho h
  · rename_i args argTypes ho
    split at h
    · rename_i x t ts ha ht
      have ha' : args = #[x] := by rw [← Array.toList_inj]; simpa using ha
      have ht' : argTypes[0]? = some t := by rw [← Array.getElem?_toList, ht]; rfl
      split at h
      · rename_i l hu hx
        refine ⟨_, fun w => ?_, h⟩
        simp [execOp, ho, ha', resolve, invoke, builtin, Builtin.len_, ht', hx, run_underlying' hu, goInt]
      · rename_i s hu hx
        refine ⟨_, fun w => ?_, h⟩
        simp [execOp, ho, ha', resolve, invoke, builtin, Builtin.len_, ht', hx, run_underlying' hu, goInt]
      · exact h.elim
    · exact h.elim
  · exact pureDef h

/-! ### 5. A region that draws its order: what is read once stays so till the operation that needs it -/
section drawn
variable {P : Program} {ops : Array Oper} {Q : Exit → Act → World → Prop} {md : Region.Mode}

/-- Must operation j wait for operation i? -/
def depB (md : Region.Mode) (ops : Array Oper) : Nat → Nat → Nat → Bool
  | 0, _, _ => false
  | f + 1, j, i => match ops[j]? with
    | some o => o.after.toList.any fun e => Region.binds md e && (Nat.beq e.on i || depB md ops f e.on i)
    | none => false
def Closed (md : Region.Mode) (ops : Array Oper) (L : Array Bool) : Prop :=
  ∀ j o, ops[j]? = some o → L.getD j false = true → ∀ e ∈ o.after, Region.binds md e = true → L.getD e.on false = true
theorem dep_closed {L : Array Bool} (hL : Closed md ops L) {i : Nat} (hi : L.getD i false = false) : ∀ (f j : Nat), L.getD j false = true → depB md ops f j i = false
  | 0, _, _ => rfl
  | f + 1, j, hj => by
    unfold depB
    cases ho : ops[j]? with
    | none => rfl
    | some o =>
      simp only []
      rw [Bool.eq_false_iff]
      intro h
      obtain ⟨e, he, hb⟩ := List.any_eq_true.1 h
      simp only [Bool.and_eq_true, Bool.or_eq_true] at hb
      have h1 := hL j o ho hj e (by simpa using he) hb.1
      rcases hb.2 with h2 | h2
      · have := Nat.eq_of_beq_eq_true h2
        rw [this, hi] at h1; cases h1
      · rw [dep_closed hL hi f e.on h1] at h2; cases h2
theorem getD_set_self {L : Array Bool} {i : Nat} (h : i < L.size) : (L.setIfInBounds i true).getD i false = true := by simp [h]
theorem getD_set_cases {L : Array Bool} {i j : Nat} (h : (L.setIfInBounds i true).getD j false = true) : j = i ∨ L.getD j false = true := by
  by_cases hij : i = j
  · exact .inl hij.symm
  · rw [getD_set_ne false hij] at h; exact .inr h
theorem Closed.set {L : Array Bool} (hL : Closed md ops L) {i : Nat} (hi : i ∈ Region.ready md ops L) : Closed md ops (L.setIfInBounds i true) := by
  intro j o ho hj e he hb
  rcases getD_set_cases hj with rfl | hj
  · obtain ⟨_, o', ho', hall⟩ := mem_ready.1 hi
    rw [ho] at ho'; cases ho'
    exact getD_set_true (hall e he hb)
  · exact getD_set_true (hL j o ho hj e he hb)

def wpAnyG (P : Program) (md : Region.Mode) (ops : Array Oper) (Q : Exit → Act → World → Prop) (S : Array Bool → World → Prop) : Nat → Array Bool → Act → World → Prop
  | 0, listed, a, w => Region.ready md ops listed = [] ∧ Q .normal a w
  | fuel + 1, listed, a, w =>
    (Region.ready md ops listed = [] → Q .normal a w) ∧
    ∀ i ∈ Region.ready md ops listed, wpOp P ops Q i (fun a' w' => S (listed.setIfInBounds i true) w' ∧ wpAnyG P md ops Q S fuel (listed.setIfInBounds i true) a' w') a w

theorem wpAny_of_G {S : Array Bool → World → Prop} : ∀ (fuel : Nat) (listed : Array Bool) (a : Act) (w : World), wpAnyG P md ops Q S fuel listed a w → wpAny P md ops Q fuel listed a w
  | 0, _, _, _, h => h
  | fuel + 1, _, _, _, h => ⟨h.1, fun i hi => wpOp_mono (fun a' w' h' => wpAny_of_G fuel _ a' w' h'.2) (h.2 i hi)⟩

theorem wpAnyG_mono {S S' : Array Bool → World → Prop} : ∀ (fuel : Nat) (L : Array Bool) (a : Act) (w : World),
    (∀ L' w, (∀ k, L.getD k false = true → L'.getD k false = true) → S L' w → S' L' w) → wpAnyG P md ops Q S fuel L a w → wpAnyG P md ops Q S' fuel L a w
  | 0, _, _, _, _, h => h
  | fuel + 1, L, _, _, hS, h => ⟨h.1, fun i hi => wpOp_mono (fun a' w' h' =>
      ⟨hS _ _ (fun k hk => getD_set_true hk) h'.1, wpAnyG_mono fuel _ a' w' (fun L' w hL' => hS L' w (fun k hk => hL' k (getD_set_true hk))) h'.2⟩) (h.2 i hi)⟩

theorem ready_lt {L : Array Bool} {i : Nat} (h : i ∈ Region.ready md ops L) : L.getD i false = false ∧ i < L.size := by
  have h0 := (mem_ready.1 h).1
  rcases Nat.lt_or_ge i L.size with h' | h'
  · exact ⟨by simp [h'] at h0 ⊢; exact h0, h'⟩
  · simp [Array.getElem?_eq_none h'] at h0

/-- An operation may be taken first that yields its value wherever C holds, if C holds behind each operation that is carried out ahead of all that waits for it. -/
theorem wpAnyG_take {S : Array Bool → World → Prop} {C : World → Prop} {eff : Nat → Bool} {F : Nat} {i : Nat} {oi : Oper} {v : Value} (hi : ops[i]? = some oi)
    (hsel : ∀ (j : Nat) (o : Oper) cs b, ops[j]? = some o → o.op ≠ .select cs b)
    (hQ : ∀ c a w, Q (.panic c) (a.put oi.dst v) w → Q (.panic c) a w) (heff : eff i = false) (hSi : ∀ L w, S (L.setIfInBounds i true) w → S L w) :
    ∀ (fuel : Nat) (listed : Array Bool) (a : Act) (w : World), Closed md ops listed →
      (∀ j oj, ops[j]? = some oj → j ≠ i → listed.getD j true = false → (∀ e ∈ oj.after, Region.binds md e = true → e.on ≠ i) → oi.apart ops oj = true) →
      i ∈ Region.ready md ops listed → YieldsIf P ops C oi v a → C w → S (listed.setIfInBounds i true) w →
      wpAnyG P md ops Q (fun L w => S L w ∧ ((∀ j, L.getD j false = true → eff j = true → depB md ops F j i = false) → C w)) fuel (listed.setIfInBounds i true) (a.put oi.dst v) w →
      wpAnyG P md ops Q S (fuel + 1) listed a w := by
  intro fuel
  induction fuel with
  | zero =>
    intro listed a w _ _ hr hy hC hS H
    refine ⟨fun h => (by rw [h] at hr; cases hr), fun j hj => ?_⟩
    by_cases hji : j = i
    · subst hji; exact hy.wpOp hi hC ⟨hS, H⟩
    · have := ready_mono hj hji
      rw [H.1] at this
      cases this
  | succ fuel ih =>
    intro listed a w hcl hfree hr hy hC hS H
    refine ⟨fun h => (by rw [h] at hr; cases hr), fun j hj => ?_⟩
    by_cases hji : j = i
    · subst hji; exact hy.wpOp hi hC ⟨hS, wpAnyG_mono _ _ _ _ (fun _ _ _ h => h.1) H⟩
    · have h1 := H.2 j (ready_mono hj hji)
      obtain ⟨hjun, oj, hoj, hall⟩ := mem_ready.1 hj
      have hil := ready_lt hr
      have hnot : ∀ e ∈ oj.after, Region.binds md e = true → e.on ≠ i := fun e he hb heq => by
        have h1 := hall e he hb
        rw [heq, hil.1] at h1; cases h1
      have h2 := wpOp_putIf hoj (hfree j oj hoj hji hjun hnot) (fun cs b => hsel i oi cs b hi) (fun cs b => hsel j oj cs b hoj) hQ hy h1
      have hfree' : ∀ k ok, ops[k]? = some ok → k ≠ i → (listed.setIfInBounds j true).getD k true = false →
          (∀ e ∈ ok.after, Region.binds md e = true → e.on ≠ i) → oi.apart ops ok = true := fun k ok hk hki hun hno => by
        refine hfree k ok hk hki ?_ hno
        by_cases hjk : j = k
        · subst hjk; exact hjun
        · rw [getD_set_ne true hjk] at hun; exact hun
      have hcl' := hcl.set hj
      have hi' : (listed.setIfInBounds j true).getD i false = false := by rw [getD_set_ne false hji]; exact hil.1
      refine wpOp_mono (fun a' w' h3 => ?_) h2
      obtain ⟨hy', ⟨hS', hC'⟩, H'⟩ := h3
      rw [Array.setIfInBounds_comm _ _ (Ne.symm hji)] at hS' hC' H'
      have hCw : C w' := hC' fun k hk hek => by
        rcases getD_set_cases hk with rfl | hk
        · rw [heff] at hek; cases hek
        · exact dep_closed hcl' hi' F k hk
      exact ⟨hSi _ _ hS', ih (listed.setIfInBounds j true) a' w' hcl' hfree' (ready_mono hr (Ne.symm hji)) hy' hCw hS' H'⟩

end drawn

/-! ### 6. Operations that look at memory or make some -/
def onRetX (R : Value → World → Prop) (pan : List PanicEntry → World → Prop) : Ending → World → Prop
  | .returned v, w => R v w
  | .panicked c, w => pan c w
  | .outgrown, _ => False
abbrev noP : List PanicEntry → World → Prop := fun _ _ => False
def onRet (R : Value → World → Prop) : Ending → World → Prop := onRetX R noP
def callable (P : Program) (f : FuncId) : Bool := match P.funcs[f]? with | some fn => !(fn.name == "runtime.NumGoroutine") && fn.body.isSome | none => false
/-- A call of a function value. -/
def cvPX (P : Program) (f : Value) (args : List Value) (w : World) (K : Value → World → Prop) (pan : List PanicEntry → World → Prop) : Prop :=
  match f with
  | .func (.func g) fs cs => match callable P g with
    | true => Calls P g (fs.toList ++ args ++ cs.toList).toArray w (onRetX K pan)
    | false => False
  | _ => False
def cvP (P : Program) (f : Value) (args : List Value) (w : World) (K : Value → World → Prop) : Prop := cvPX P f args w K noP
def panP (v : Value) (pan : List PanicEntry → World → Prop) (w : World) : Prop := match v with | .iface _ _ => pan [{ v, recovered := false }] w | _ => False
def apP (P : Program) (ats : Array TypeId) (ty : TypeId) (args : List Value) (w : World) (K : Slc → World → Prop) : Prop :=
  ∃ (s : Slc) (w' : World), (Builtin.append_ ats ty args.toArray).run P w = .ok (.slice s.a s.l s.c) w' ∧ K s w'
def cpP (P : Program) (ats : Array TypeId) (ty : TypeId) (args : List Value) (w : World) (K : Int → World → Prop) : Prop :=
  ∃ (n : Int) (w' : World), (Builtin.copy_ ats ty args.toArray).run P w = .ok (.int .i64 n) w' ∧ K n w'
def mkP (P : Program) (t : TypeId) (l c : Value) (w : World) (K : Slc → World → Prop) : Prop :=
  ∃ (s : Slc) (w' : World), (Instr.makeSlice t l c).run P w = .ok (.slice s.a s.l s.c) w' ∧ K s w'
/-- A piece of the model's own, its value of a type's kind. -/
def opP (P : Program) (t : TypeId) (s : Sem Value) (w : World) (K : Value → World → Prop) : Prop := exR P t fun v => ∃ w', s.run P w = .ok v w' ∧ K v w'
def opU (P : Program) (s : Sem Unit) (w : World) (K : World → Prop) : Prop := ∃ w', s.run P w = .ok () w' ∧ K w'

theorem exv_some {k : Kd} {K : Value → Prop} (h : exv k K) : ∃ v, K v := by cases k <;> obtain ⟨x, h⟩ := h <;> exact ⟨_, h⟩
theorem exvs_some {ks : List Kd} : ∀ {K : List Value → Prop}, exvs ks K → ∃ vs, K vs := by
  induction ks with
  | nil => exact fun h => ⟨[], h⟩
  | cons k ks ih =>
      intro K h
      obtain ⟨v, h⟩ := exv_some h
      obtain ⟨vs, h⟩ := ih h
      exact ⟨_, h⟩
theorem exT_some {P : Program} {t : TypeId} {K : Value → Prop} (h : exT P t K) : ∃ v, K v := by
  unfold exT at h
  split at h
  · exact exv_some h
  · obtain ⟨vs, h⟩ := exvs_some h; exact ⟨_, h⟩
  · exact h.elim
theorem exTs_some {P : Program} {ts : List TypeId} : ∀ {K : List Value → Prop}, exTs P ts K → ∃ vs, K vs := by
  induction ts with
  | nil => exact fun h => ⟨[], h⟩
  | cons k ks ih =>
      intro K h
      obtain ⟨v, h⟩ := exT_some h
      obtain ⟨vs, h⟩ := ih h
      exact ⟨_, h⟩
theorem exR_some {P : Program} {t : TypeId} {K : Value → Prop} (h : exR P t K) : ∃ v, K v := by
  unfold exR at h
  split at h
  · obtain ⟨vs, h⟩ := exTs_some h; exact ⟨_, h⟩
  · exact exv_some h
  · exact exT_some h

def zeroCellsL (z : Array Value) (n : Nat) : Array Value := ((List.range n).map fun i => z[i % z.size]!).toArray
def shBuildSlice (P : Program) (t : TypeId) (len : Nat) (parts : List (Nat × Value)) (w : World) (K : Value → World → Prop) : Prop :=
  match P.underlying t with
  | some (.slice el) => match P.info? el with
    | some i => match i.zero with
      | some z => match Nat.ble (len * i.size) 16777216 with
        | true => match Instr.fill (fun k => some (k * i.size, i.size)) (zeroCellsL z.cells (len * i.size)) parts with
          | some cells => newP cells el w fun ad w' => K (.slice (some ad) len len) w'
          | none => False
        | false => False
      | none => False
    | none => False
  | _ => False

/-- What becomes of panics, and which functions may panic. -/
structure Pan where
  ids : List Nat
  p : List PanicEntry → World → Prop
def nop : Pan := ⟨[], noP⟩
def memN : List Nat → Nat → Bool
  | [], _ => false
  | k :: l, n => match Nat.beq k n with | true => true | false => memN l n
def panOf (pan : Pan) (f : Value) : List PanicEntry → World → Prop := match pan.ids with
  | [] => noP
  | i :: l => match f with
    | .func (.func g) _ _ => match memN (i :: l) g with | true => pan.p | false => noP
    | _ => noP
theorem panOf_le {pan : Pan} {f : Value} {c : List PanicEntry} {w : World} (h : panOf pan f c w) : pan.p c w := by
  obtain ⟨ids, p⟩ := pan
  cases ids with
  | nil => exact (show False from h).elim
  | cons i l =>
    cases f <;> try exact (show False from h).elim
    rename_i g _ _
    cases g <;> try exact (show False from h).elim
    rename_i g
    simp only [panOf] at h
    cases hm : memN (i :: l) g <;> simp only [hm] at h
    · exact (show False from h).elim
    · exact h
def shEff (P : Program) (pan : Pan) (o : Oper) (e : Env) (w : World) (K : Value → World → Prop) : Prop :=
  match o.op with
  | .load t a => shLoad P t (evd e a) w fun v _ => K v w
  | .store t a v => shStore P t (evd e a) (evd e v) w fun w' => K undef w'
  | .alloc el => match P.info? el with
    | some i => match i.zero with | some z => newP z.cells el w fun ad w' => K (.pointer (some ad)) w' | none => False
    | none => False
  | .box el v => newP (evd e v).cells el w fun ad w' => K (.pointer (some ad)) w'
  | .buildSlice t len parts => shBuildSlice P t len (parts.toList.map fun p => (p.1, evd e p.2)) w K
  | .makeSlice t l c => mkP P t (evd e l) (evd e c) w fun s w' => K (.slice s.a s.l s.c) w'
  | .convert src dst x => opP P o.type (convert src dst (evd e x)) w K
  | .index t x ix => opP P o.type (Instr.index t (evd e x) (evd e ix)) w K
  | .makeMap t r => opP P o.type (Instr.makeMap t (r.map (evd e))) w K
  | .lookup t x ix ok => opP P o.type (Instr.lookup t (evd e x) (evd e ix) ok) w K
  | .mapUpdate t m k x => opU P (Instr.mapUpdate t (evd e m) (evd e k) (evd e x)) w fun w' => K undef w'
  | .mapEntry t m k => opP P o.type (Instr.mapEntry t (evd e m) (evd e k)) w K
  | .entryStore t m s x => opU P (Instr.entryStore t (evd e m) (evd e s) (evd e x)) w fun w' => K undef w'
  | .range t x => ∃ v w', (Instr.range t (evd e x)).run P w = .ok v w' ∧ K v w'
  | .next it b => opP P o.type (Instr.next (evd e it) b o.type) w K
  | .typeAssert x t u ok => opP P o.type (Instr.typeAssert (evd e x) t u ok) w K
  | .binOp op t x y _ => opP P o.type (do eqGuard op t x y (evd e x) (evd e y); binOp op t (evd e x) (evd e y)) w K
  | .call { callee := .value f, args, .. } => cvPX P (evd e f) (args.toList.map (evd e)) w (fun v w' => exR P o.type fun v' => v = v' ∧ K v' w') (panOf pan (evd e f))
  | .panic x => panP (evd e x) pan.p w
  | .call { callee := .builtin .append, args, argTypes } => apP P argTypes o.type (args.toList.map (evd e)) w fun s w' => K (.slice s.a s.l s.c) w'
  | .call { callee := .builtin .copy, args, argTypes } => cpP P argTypes o.type (args.toList.map (evd e)) w fun n w' => K (.int .i64 n) w'
  | .call { callee := .builtin b, args, argTypes } => exR P o.type fun v => ∃ w', (builtin b argTypes o.type (args.map fun | .const _ => true | _ => false) (args.toList.map (evd e)).toArray).run P w = .ok (.value v) w' ∧ K v w'
  | _ => False

theorem ldK_some {k : Kd} {ad : Addr} {w : World} {K : Value → Prop} (h : ldK k ad w K) : ∃ v, w.cell? ad = some v ∧ K v := by
  cases k <;> obtain ⟨x, hx, h⟩ := h <;> exact ⟨_, hx, h⟩
theorem ldKs_some {ad : Addr} {w : World} : ∀ {ks : List Kd} {i : Nat} {K : List Value → Prop}, ldKs ks ad i w K → ∃ vs, vs.length = ks.length ∧ holds vs ad i w ∧ K vs
  | [], _, _, h => ⟨[], rfl, trivial, h⟩
  | k :: ks, i, _, h => by
    obtain ⟨v, hv, h⟩ := ldK_some h
    obtain ⟨vs, h1, h2, h3⟩ := ldKs_some h
    exact ⟨v :: vs, by simp [h1], ⟨hv, h2⟩, h3⟩
theorem holds_at {ad : Addr} {w : World} : ∀ {vs : List Value} {i : Nat}, holds vs ad i w → ∀ j v, vs[j]? = some v → w.cell? (ad.add (i + j)) = some v
  | [], _, _, j, v, h => by simp at h
  | u :: vs, i, h, 0, v, hv => by simp at hv; subst hv; exact h.1
  | u :: vs, i, h, j + 1, v, hv => by
    have := holds_at h.2 j v (by simpa using hv)
    rw [show i + (j + 1) = i + 1 + j by omega]; exact this
theorem kindsOf_spec {P : Program} {t : TypeId} {g : Bool} {ks : List Kd} (h : kindsOf P t = some (g, ks)) : ∃ i, P.info? t = some i ∧ i.size = ks.length ∧ isAggB P t = g := by
  unfold kindsOf at h
  split at h
  · rename_i ks' i hl hi
    split at h
    · rename_i hb
      simp only [Option.some.injEq, Prod.mk.injEq] at h
      exact ⟨i, hi, by rw [← h.2]; exact Nat.eq_of_beq_eq_true hb, h.1⟩
    · cases h
  · cases h
theorem underlying_some {P : Program} {t : TypeId} {i : TypeInfo} (h : P.info? t = some i) (hz : ∃ ks, leaves P 12 t = some ks) : ∃ d, P.underlying t = some d := by
  obtain ⟨ks, hk⟩ := hz
  cases hu : P.underlying t with
  | some d => exact ⟨d, rfl⟩
  | none => unfold leaves at hk; simp [hu] at hk
theorem leaves_some {P : Program} {t : TypeId} {x : Bool × List Kd} (h : kindsOf P t = some x) : ∃ ks, leaves P 12 t = some ks := by
  unfold kindsOf at h
  split at h
  · rename_i ks i hl hi; exact ⟨ks, hl⟩
  · cases h
theorem run_isAgg {P : Program} {t : TypeId} {d : TypeDesc} (hd : P.underlying t = some d) (w : World) : (isAgg t).run P w = .ok (isAggB P t) w := by
  simp only [isAgg, isAggB, Sem.run_bind, run_underlying' hd, Result.andThen_ok, hd]
  cases d <;> rfl
/-- A load's run, out of the cells. -/
theorem run_loadVar_cells {P : Program} {t : TypeId} {ad : Addr} {w : World} {ks : List Kd} {vs : List Value} (hk : kindsOf P t = some (true, ks)) (hl : vs.length = ks.length) (h : holds vs ad 0 w) :
    (loadVar t ad).run P w = .ok (.agg vs.toArray) w := by
  obtain ⟨i, hi, hs, hg⟩ := kindsOf_spec hk
  obtain ⟨d, hd⟩ := underlying_some hi (leaves_some hk)
  have hc := run_loadCells_list (P := P) (w := w) ad vs (fun j v hv => by have := holds_at h j v hv; simpa using this)
  simp [loadVar, run_isAgg hd, hg, run_sizeOf' hi, hs, ← hl, hc]
theorem run_loadVar_cell {P : Program} {t : TypeId} {ad : Addr} {w : World} {k : Kd} {v : Value} (hk : kindsOf P t = some (false, [k])) (h : w.cell? ad = some v) :
    (loadVar t ad).run P w = .ok v w := by
  obtain ⟨i, hi, hs, hg⟩ := kindsOf_spec hk
  obtain ⟨d, hd⟩ := underlying_some hi (leaves_some hk)
  simp [loadVar, run_isAgg hd, hg, h]
theorem shLoad_sound {P : Program} {t : TypeId} {a : Operand} {e : Env} {o : Oper} {w : World} {K : Value → (World → Prop) → Prop} (ho : o.op = .load t a) (h : shLoad P t (evd e a) w K) :
    ∃ v C, C w ∧ (∀ w', C w' → (execOp (evd e) o).run P w' = .ok (.value v) w') ∧ K v C := by
  unfold shLoad at h
  split at h
  · rename_i ad ha
    split at h
    · rename_i k hk
      obtain ⟨v, hv, h⟩ := ldK_some h
      exact ⟨v, _, hv, fun w' hw' => by simp [execOp, ho, ha, Instr.loadAt, Instr.sureAddr, run_loadVar_cell hk hw'], h⟩
    · rename_i ks hk
      obtain ⟨vs, hl, hh, h⟩ := ldKs_some h
      exact ⟨_, _, hh, fun w' hw' => by simp [execOp, ho, ha, Instr.loadAt, Instr.sureAddr, run_loadVar_cells hk hl hw'], h⟩
    · exact h.elim
  · exact h.elim
theorem stPs_run {P : Program} {ad : Addr} : ∀ {vs : List Value} {i : Nat} {w : World} {K : World → Prop}, stPs vs ad i w K → ∃ w', (storeCells ad vs i).run P w = .ok () w' ∧ K w'
  | [], _, w, _, h => ⟨w, rfl, h⟩
  | v :: vs, i, w, K, h => by
    rcases iteB_cases h with ⟨hv, h⟩ | ⟨_, h⟩
    · obtain ⟨⟨u, hu⟩, hf, h⟩ := h
      obtain ⟨w', hr, hK⟩ := stPs_run (P := P) h
      refine ⟨w', ?_, hK⟩
      simp only [storeCells, Sem.run_bind, run_store P w _ v .plain hv, hu, hf, Bool.false_eq_true, if_false, Result.andThen_ok]
      exact hr
    · exact h.elim
theorem shStore_sound {P : Program} {t : TypeId} {a v : Value} {w : World} {K : World → Prop} (h : shStore P t a v w K) : ∃ w', (Instr.storeAt t a v).run P w = .ok () w' ∧ K w' := by
  unfold shStore at h
  split at h
  · rename_i ad
    split at h
    · rename_i i hi
      rcases iteB_cases h with ⟨hb, h⟩ | ⟨_, h⟩
      · obtain ⟨w', hr, hK⟩ := stPs_run (P := P) h
        refine ⟨w', ?_, hK⟩
        have := Nat.eq_of_beq_eq_true hb
        simp [Instr.storeAt, Instr.sureAddr, storeVar, run_sizeOf' hi, this, hr]
      · exact h.elim
    · exact h.elim
  · exact h.elim
theorem zeroCellsL_eq (z : Array Value) (n : Nat) : zeroCellsL z n = (Array.range n).map (z[· % z.size]!) := by
  unfold zeroCellsL
  rw [← Array.toList_inj]; simp
theorem shBuildSlice_sound {P : Program} {t : TypeId} {len : Nat} {parts : List (Nat × Value)} {w : World} {K : Value → World → Prop} (h : shBuildSlice P t len parts w K) :
    ∃ v w', (Instr.buildSlice t len parts.toArray).run P w = .ok v w' ∧ K v w' := by
  unfold shBuildSlice at h
  split at h
  · rename_i el hu
    split at h
    · rename_i i hi
      split at h
      · rename_i z hz
        split at h
        · rename_i hb
          split at h
          · rename_i cells hf
            have hb := Nat.le_of_ble_eq_true hb
            refine ⟨_, _, ?_, h⟩
            rw [zeroCellsL_eq] at hf
            have h1 : ¬ (len * i.size > 2 ^ 24) := by omega
            by_cases h2 : len * i.size = 0
            · have h0 : ∀ f : Nat → Value, (Array.range (len * i.size)).map f = #[] := fun f => by rw [h2]; simp
              rw [h0] at hf
              have h3 : ¬ (0 > 2 ^ 24) := by omega
              simp only [Instr.buildSlice, Sem.run_bind, run_underlying' hu, Result.andThen_ok, run_sizeOf' hi, h1, h2, h3, if_false, if_true, Sem.run_pure]
              have h4 : ∀ f : Nat → Value, (Array.range 0).map f = #[] := fun f => by simp
              simp only [h4, hf, newRow, run_newObj, Sem.run_bind, Result.andThen_ok, Sem.run_pure]
              rfl
            · simp only [Instr.buildSlice, Sem.run_bind, run_underlying' hu, Result.andThen_ok, run_sizeOf' hi, h1, h2, if_false, zeroValue, run_typeInfo' hi, hz, Sem.run_pure, hf, newRow, run_newObj]
              rfl
          · exact h.elim
        · exact h.elim
      · exact h.elim
    · exact h.elim
  · exact h.elim

/-! ### 7. An operation, a region, code -/
/-- The state is what the environment says, as far as it says. -/
structure Rep (n : Nat) (ds : List Deferred) (e : Env) (a : Act) : Prop where
  size : a.tmps.size = n
  defers : a.defers = ds
  at_ : ∀ t v, e.get? t = some v → a.tmps[t]? = some v
theorem Rep.eval {n : Nat} {ds : List Deferred} {e : Env} {a : Act} (h : Rep n ds e a) {x : Operand} (hx : (ev e x).isSome = true) : a.eval x = evd e x := by
  unfold evd
  cases x with
  | tmp t =>
    simp only [ev] at hx ⊢
    cases hg : e.get? t with
    | none => simp [hg] at hx
    | some v => simp [Act.eval, h.at_ t v hg]
  | _ => rfl
def known (o : Oper) (e : Env) : Bool := (match o.op with | .select .. => false | _ => true) && o.op.operands.toList.all fun x => (ev e x).isSome
theorem known_exec {n : Nat} {ds : List Deferred} {e : Env} {a : Act} {o : Oper} (h : Rep n ds e a) (hk : known o e = true) : execOp a.eval o = execOp (evd e) o := by
  unfold known at hk
  simp only [Bool.and_eq_true] at hk
  refine execOp_congr o ?_ fun x hx => h.eval (List.all_eq_true.1 hk.2 x (by simpa using hx))
  intro cs b hb
  rw [hb] at hk
  simp at hk
def putOk (n : Nat) : Option Tmp → Bool
  | none => true
  | some d => Nat.blt d n
def Env.put (e : Env) (d : Option Tmp) (v : Value) : Env := match d with | none => e | some d => (d, v) :: e
theorem Rep.put {n : Nat} {ds : List Deferred} {e : Env} {a : Act} (h : Rep n ds e a) {d : Option Tmp} (hd : putOk n d = true) (v : Value) : Rep n ds (e.put d v) (a.put d v) := by
  cases d with
  | none => exact h
  | some d =>
    have hlt : d < a.tmps.size := by rw [h.size]; exact Nat.le_of_ble_eq_true hd
    refine ⟨by simp [Act.put, h.size], h.defers, fun t u hu => ?_⟩
    simp only [Env.put, Env.get?] at hu
    simp only [Act.put]
    split at hu
    · rename_i hb
      obtain rfl := Nat.eq_of_beq_eq_true hb
      cases hu
      simp [hlt]
    · rename_i hb
      have hne : d ≠ t := fun h => by subst h; simp at hb
      rw [Array.getElem?_setIfInBounds_ne hne]
      exact h.at_ t u hu
/-- Nothing has changed but these slots. -/
def Same (ds : List Tmp) (a a' : Act) : Prop := ∀ t, t ∉ ds → a'.tmps[t]? = a.tmps[t]?
theorem Same.refl (ds : List Tmp) (a : Act) : Same ds a a := fun _ _ => rfl
theorem Same.trans {ds ds' : List Tmp} {a b c : Act} (h : Same ds a b) (h' : Same ds' b c) : Same (ds ++ ds') a c := fun t ht => by
  simp only [List.mem_append, not_or] at ht
  exact (h' t ht.2).trans (h t ht.1)
theorem Same.mono {ds ds' : List Tmp} {a b : Act} (h : Same ds a b) (hs : ∀ t, t ∈ ds → t ∈ ds') : Same ds' a b := fun t ht => h t fun h' => ht (hs t h')
theorem Same.put (a : Act) (d : Option Tmp) (v : Value) : Same d.toList a (a.put d v) := fun t ht => by
  cases d with
  | none => rfl
  | some d =>
    have : d ≠ t := fun h => ht (by simp [h])
    simp [Act.put, Array.getElem?_setIfInBounds_ne this]

def isPure (P : Program) : Op → Bool
  | .move _ | .assign _ | .pick .. | .nilCheck _ | .unOp .. | .fieldAddr .. | .field .. | .indexAddr .. | .extract .. | .slice .. | .makeFunc .. | .build .. | .makeInterface .. => true
  | .binOp op t _ y _ => match op with
    | .eql | .neq => match P.underlying t, y with
      | some (.pointer _), .const (.pointer none) => true
      | some (.pointer _), _ => false
      | some (.interface _), .const .nilIface => true
      | some (.interface _), _ => false
      | some (.struct _), _ => false
      | some (.array _ _), _ => false
      | _, _ => true
    | _ => true
  | .index t _ _ => match P.underlying t with | some .string => true | _ => false
  | .convert s d _ => match P.underlying s, P.underlying d with | some (.int _), some (.int _) => true | some .string, some .string => true | _, _ => false
  | .call { callee := .builtin .len, argTypes, .. } => match argTypes.toList with | t :: _ => (match P.underlying t with | some (.slice _) => true | some .string => true | _ => false) | _ => false
  | .call { callee := .builtin .min, .. } => true
  | .call { callee := .builtin .max, .. } => true
  | _ => false
def isLoad : Op → Bool
  | .load .. => true
  | _ => false
def shOp (P : Program) (pan : Pan) (o : Oper) (e : Env) (w : World) (K : Value → World → Prop) : Prop :=
  match known o e with
  | true => (match isPure P o.op with | true => shPure P o e fun v => K v w | false => shEff P pan o e w K)
  | false => False

theorem shEff_sound {P : Program} {pan : Pan} {o : Oper} {e : Env} {a : Act} {n : Nat} {ds : List Deferred} {w : World} {K : Value → World → Prop} {Q : Exit → Act → World → Prop} {Ka : Act → World → Prop}
    (hr : Rep n ds e a) (hk : known o e = true) (hP : ∀ c w', pan.p c w' → Q (.panic c) a w') (hK : ∀ v w', K v w' → Ka (a.put o.dst v) w') (h : shEff P pan o e w K) : o.wp P a w Ka Q := by
  have val : ∀ {v w'}, (execOp (evd e) o).run P w = .ok (.value v) w' → K v w' → o.wp P a w Ka Q := fun {v w'} hrun hKv => by
    unfold Oper.wp; rw [known_exec hr hk, hrun]; exact hK _ _ hKv
  have skp : ∀ {w'}, (execOp (evd e) o).run P w = .ok .skip w' → K undef w' → o.wp P a w Ka Q := fun {w'} hrun hKv => by
    unfold Oper.wp; rw [known_exec hr hk, hrun]; exact hK _ _ hKv
  unfold shEff at h
  split at h
  · rename_i t x ho
    obtain ⟨v, C, hC, hrun, hKv⟩ := shLoad_sound ho h
    exact val (hrun w hC) hKv
  · rename_i t x y ho
    obtain ⟨w', hrun, hKv⟩ := shStore_sound h
    exact skp (by simp [execOp, ho, hrun]) hKv
  · rename_i el ho
    split at h
    · rename_i i hi
      split at h
      · rename_i z hz
        refine val (v := .pointer (some ⟨w.heap.size, 0, none⟩)) (w' := w.alloc (.cells z.cells el)) ?_ h
        simp [execOp, ho, Instr.alloc, zeroValue, run_typeInfo' hi, hz, newVar, newRow]
      · exact h.elim
    · exact h.elim
  · rename_i el x ho
    refine val (v := .pointer (some ⟨w.heap.size, 0, none⟩)) (w' := w.alloc (.cells (evd e x).cells el)) ?_ h
    simp [execOp, ho, Instr.box, newVar, newRow]
  · rename_i t len parts ho
    obtain ⟨v, w', hrun, hKv⟩ := shBuildSlice_sound h
    refine val ?_ hKv
    have hp : (parts.map fun (x : Nat × Operand) => (x.1, evd e x.2)) = (parts.toList.map fun p => (p.1, evd e p.2)).toArray := by
      rw [← Array.toList_inj]; simp
    have hp' : (parts.map fun (i, x) => (i, evd e x)) = (parts.toList.map fun p => (p.1, evd e p.2)).toArray := hp
    simp only [execOp, ho, hp', Sem.run_bind, hrun, Result.andThen_ok, Sem.run_pure]
  · rename_i t l c ho
    obtain ⟨s, w', hrun, hKv⟩ := h
    exact val (by simp [execOp, ho, hrun]) hKv
  · rename_i s d x ho
    obtain ⟨v, w', hrun, hKv⟩ := exR_some h
    exact val (by simp [execOp, ho, hrun]) hKv
  · rename_i t x ix ho
    obtain ⟨v, w', hrun, hKv⟩ := exR_some h
    exact val (by simp [execOp, ho, hrun]) hKv
  · rename_i t r ho
    obtain ⟨v, w', hrun, hKv⟩ := exR_some h
    exact val (by simp [execOp, ho, hrun]) hKv
  · rename_i t x ix ok ho
    obtain ⟨v, w', hrun, hKv⟩ := exR_some h
    exact val (by simp [execOp, ho, hrun]) hKv
  · rename_i t m k x ho
    obtain ⟨w', hrun, hKv⟩ := h
    exact skp (by simp [execOp, ho, hrun]) hKv
  · rename_i t m k ho
    obtain ⟨v, w', hrun, hKv⟩ := exR_some h
    exact val (by simp [execOp, ho, hrun]) hKv
  · rename_i t m s x ho
    obtain ⟨w', hrun, hKv⟩ := h
    exact skp (by simp [execOp, ho, hrun]) hKv
  · rename_i t x ho
    obtain ⟨v, w', hrun, hKv⟩ := h
    exact val (by simp [execOp, ho, hrun]) hKv
  · rename_i it b ho
    obtain ⟨v, w', hrun, hKv⟩ := exR_some h
    exact val (by simp [execOp, ho, hrun]) hKv
  · rename_i x t u ok ho
    obtain ⟨v, w', hrun, hKv⟩ := exR_some h
    exact val (by simp [execOp, ho, hrun]) hKv
  · rename_i op t x y yt ho
    obtain ⟨v, w', hrun, hKv⟩ := exR_some h
    exact val (by simp only [execOp, ho, Sem.run_bind] at hrun ⊢; simp [hrun]) hKv
  · rename_i f args ats ho
    unfold cvPX at h
    split at h
    · rename_i g fs cs hf
      split at h
      · rename_i hc
        unfold callable at hc
        cases hfn : P.funcs[g]? with
        | none => simp [hfn] at hc
        | some fn =>
          simp only [hfn, Bool.and_eq_true, Bool.not_eq_true'] at hc
          have hbody : fn.body.isNone = false := by cases hb : fn.body <;> simp_all
          have hargs : fs ++ args.map (evd e) ++ cs = (fs.toList ++ args.toList.map (evd e) ++ cs.toList).toArray := by
            rw [← Array.toList_inj]; simp
          have hrun : (execOp (evd e) o).run P w = .ok (.enter g (fs.toList ++ args.toList.map (evd e) ++ cs.toList).toArray) w := by
            rw [← hargs]
            have h1 : ¬ fn.name = "runtime.NumGoroutine" := by simpa using hc.1
            have h2 : ¬ fn.body = none := by intro hb; rw [hb] at hbody; cases hbody
            simp [execOp, ho, resolve, Deferred.ofValue, hf, invoke, callFunc, hfn, h1, h2]
          unfold Oper.wp
          rw [known_exec hr hk, hrun]
          refine Calls.mono h fun en w' hen => ?_
          cases en with
          | returned v =>
            have hen' : exR P o.type fun v' => v = v' ∧ K v' w' := hen
            obtain ⟨v', rfl, hKv⟩ := exR_some hen'
            exact hK _ _ hKv
          | panicked c => exact hP _ _ (panOf_le hen)
          | outgrown => exact hen.elim
      · exact h.elim
    · exact h.elim
  · rename_i x ho
    unfold panP at h
    split at h
    · rename_i t v hx
      have hrun : (execOp (evd e) o).run P w = .halt (.panic (.iface t v)) w := by
        simp [execOp, ho, hx, Instr.panic, goPanic]
      unfold Oper.wp
      rw [known_exec hr hk, hrun, Oper.upon_panic]
      refine hP _ _ ?_
      rw [← hx]; exact h
    · exact h.elim
  · rename_i args ats ho
    obtain ⟨s, w', hrun, hKv⟩ := h
    have hargs : args.map (evd e) = (args.toList.map (evd e)).toArray := by rw [← Array.toList_inj]; simp
    exact val (by simp only [execOp, ho, resolve, invoke, builtin, Sem.run_bind, Sem.run_pure, Result.andThen_ok, hargs, hrun]) hKv
  · rename_i args ats ho
    obtain ⟨s, w', hrun, hKv⟩ := h
    have hargs : args.map (evd e) = (args.toList.map (evd e)).toArray := by rw [← Array.toList_inj]; simp
    exact val (by simp only [execOp, ho, resolve, invoke, builtin, Sem.run_bind, Sem.run_pure, Result.andThen_ok, hargs, hrun]) hKv
  · rename_i b args ats _ _ ho
    obtain ⟨v, w', hrun, hKv⟩ := exR_some h
    have hargs : args.map (evd e) = (args.toList.map (evd e)).toArray := by rw [← Array.toList_inj]; simp
    exact val (by simp only [execOp, ho, resolve, invoke, Sem.run_bind, Sem.run_pure, Result.andThen_ok, hargs]; exact hrun) hKv
  · exact h.elim

theorem shOp_sound {P : Program} {pan : Pan} {o : Oper} {e : Env} {a : Act} {n : Nat} {ds : List Deferred} {w : World} {K : Value → World → Prop} {Q : Exit → Act → World → Prop} {Ka : Act → World → Prop}
    (hr : Rep n ds e a) (hP : ∀ c w', pan.p c w' → Q (.panic c) a w') (hK : ∀ v w', K v w' → Ka (a.put o.dst v) w') (h : shOp P pan o e w K) : o.wp P a w Ka Q := by
  unfold shOp at h
  split at h
  · rename_i hk
    split at h
    · obtain ⟨v, hrun, hKv⟩ := shPure_sound h
      unfold Oper.wp; rw [known_exec hr hk, hrun]; exact hK _ _ hKv
    · exact shEff_sound hr hk hP hK h
  · exact h.elim

def gslot (ops : Array Oper) (j : Nat) : Option Tmp := match ops[j]? with | some o => o.dst | none => none
theorem yielded_known {n : Nat} {ds : List Deferred} {e : Env} {a : Act} {ops : Array Oper} {j t : Nat} {v : Value} (h : Rep n ds e a) (hj : gslot ops j = some t) (hv : e.get? t = some v) :
    yielded ops a.tmps j = match v with | .bool b => some b | _ => none := by
  unfold gslot at hj
  unfold yielded
  cases ho : ops[j]? with
  | none => simp [ho] at hj
  | some o =>
    simp only [ho] at hj
    simp only [Option.bind_some, hj, h.at_ t v hv]
    cases v <;> rfl
/-- Is the operation carried out? In each case what is known of its guard is laid down. -/
def shGuard (ops : Array Oper) (o : Oper) (e : Env) (yes : Env → Prop) (no : Env → Prop) : Prop :=
  match o.guard with
  | none => yes e
  | some (j, want) => match gslot ops j with
    | some t => match e.get? t with
      | some (.bool b) => (match b with
        | true => (match want with | true => yes ((t, .bool true) :: e) | false => no ((t, .bool true) :: e))
        | false => (match want with | true => no ((t, .bool false) :: e) | false => yes ((t, .bool false) :: e)))
      | some (.tuple _) => no e
      | _ => False
    | none => False
theorem Rep.again {n : Nat} {ds : List Deferred} {e : Env} {a : Act} {t : Nat} {v : Value} (h : Rep n ds e a) (hv : e.get? t = some v) : Rep n ds ((t, v) :: e) a :=
  ⟨h.size, h.defers, fun s u hu => by
    simp only [Env.get?] at hu
    split at hu
    · rename_i hb
      obtain rfl := Nat.eq_of_beq_eq_true hb
      cases hu
      exact h.at_ t v hv
    · exact h.at_ s u hu⟩
theorem shGuard_sound {n : Nat} {ds : List Deferred} {ops : Array Oper} {o : Oper} {e : Env} {a : Act} {yes no : Env → Prop} (hr : Rep n ds e a) (h : shGuard ops o e yes no) :
    ∃ e', Rep n ds e' a ∧ ((Region.wanted o (yielded ops a.tmps) = true ∧ yes e') ∨ (Region.wanted o (yielded ops a.tmps) = false ∧ no e')) := by
  unfold shGuard at h
  cases hg : o.guard with
  | none =>
    simp only [hg] at h
    exact ⟨e, hr, .inl ⟨by simp [Region.wanted, hg], h⟩⟩
  | some gw =>
    obtain ⟨j, want⟩ := gw
    simp only [hg] at h
    cases ht : gslot ops j with
    | none => simp only [ht] at h
    | some t =>
      simp only [ht] at h
      cases hv : e.get? t with
      | none => simp only [hv] at h
      | some v =>
        have hy := yielded_known hr ht hv
        cases v with
        | bool b =>
          simp only [hv] at h
          cases b <;> cases want <;> simp only at h
          · exact ⟨_, hr.again hv, .inl ⟨by simp [Region.wanted, hg, hy], h⟩⟩
          · exact ⟨_, hr.again hv, .inr ⟨by simp [Region.wanted, hg, hy], h⟩⟩
          · exact ⟨_, hr.again hv, .inr ⟨by simp [Region.wanted, hg, hy], h⟩⟩
          · exact ⟨_, hr.again hv, .inl ⟨by simp [Region.wanted, hg, hy], h⟩⟩
        | tuple vs =>
          simp only [hv] at h
          exact ⟨e, hr, .inr ⟨by simp [Region.wanted, hg, hy], h⟩⟩
        | _ => simp only [hv] at h

def dsts (l : List Oper) : List Tmp := match l with | [] => [] | o :: r => o.dst.toList ++ dsts r
def shOps (P : Program) (pan : Pan) (n : Nat) (ops : Array Oper) : List Oper → (Env → World → Prop) → Env → World → Prop
  | [], K, e, w => K e w
  | o :: rest, K, e, w => match putOk n o.dst with
    | true => shGuard ops o e (fun e => shOp P pan o e w fun v w' => shOps P pan n ops rest K (e.put o.dst v) w') fun e => shOps P pan n ops rest K (e.put o.dst undef) w
    | false => False
theorem shOps_sound {P : Program} {pan : Pan} {n : Nat} {ds : List Deferred} {ops : Array Oper} {Q : Exit → Act → World → Prop} {K : Env → World → Prop} : ∀ {l : List Oper} {e : Env} {a : Act} {w : World},
    Rep n ds e a → (∀ c a' w', pan.p c w' → a'.defers = ds → Same (dsts l) a a' → Q (.panic c) a' w') → (∀ e' a' w', K e' w' → Rep n ds e' a' → Same (dsts l) a a' → Q .normal a' w') → shOps P pan n ops l K e w → wpList P ops Q l a w
  | [], e, a, w, hr, _, hK, h => hK e a w h hr (Same.refl _ _)
  | o :: rest, e, a, w, hr, hP, hK, h => by
    unfold shOps at h
    split at h
    · rename_i hp
      obtain ⟨e', hr', h⟩ := shGuard_sound hr h
      have step : ∀ v e₁ a₁ w₁, K e₁ w₁ → Rep n ds e₁ a₁ → Same (dsts rest) (a.put o.dst v) a₁ → Q .normal a₁ w₁ := fun v e₁ a₁ w₁ h1 h2 h3 =>
        hK e₁ a₁ w₁ h1 h2 ((Same.put a o.dst v).trans h3)
      have stepP : ∀ v c a₁ w₁, pan.p c w₁ → a₁.defers = ds → Same (dsts rest) (a.put o.dst v) a₁ → Q (.panic c) a₁ w₁ := fun v c a₁ w₁ h1 h2 h3 =>
        hP c a₁ w₁ h1 h2 ((Same.put a o.dst v).trans h3)
      refine wpList_step fun Kc hKc => ?_
      rcases h with ⟨hw, h⟩ | ⟨hw, h⟩
      · rw [if_pos hw]
        exact shOp_sound hr' (fun c w' hc => hP c a w' hc hr'.defers (Same.refl _ _)) (fun v w' hv => hKc _ _ (shOps_sound (hr'.put hp v) (stepP v) (step v) hv)) h
      · rw [if_neg (by simp [hw])]
        exact hKc _ _ (shOps_sound (hr'.put hp undef) (stepP undef) (step undef) h)
    · exact h.elim

/-! ### 8. A drawn region, by a plan -/
def allP : List (Nat × (World → Prop)) → World → Prop → Prop
  | [], _, X => X
  | p :: ps, w, X => p.2 w ∧ allP ps w X
theorem allP_spec {w : World} {X : Prop} : ∀ {ps : List (Nat × (World → Prop))}, allP ps w X → (∀ p ∈ ps, p.2 w) ∧ X
  | [], h => ⟨by simp, h⟩
  | p :: ps, h => by
    obtain ⟨h1, h2⟩ := allP_spec h.2
    exact ⟨by simpa using ⟨h.1, fun a b hab => h1 _ hab⟩, h2⟩
def clsEff (P : Program) (ops : Array Oper) (i : Nat) : Bool := match ops[i]? with | some o => !(isPure P o.op || isLoad o.op) | none => true
def keepB (ops : Array Oper) (j : Nat) (p : Nat × (World → Prop)) : Bool := !depB .any ops ops.size j p.1
/-- A plan: at each place an operation that may come up; if it is no reader, the only one, or one of two. -/
inductive PT where
  | nil
  | one (i : Nat) (p : PT)
  | alt (i j : Nat) (p q : PT)
def PT.len : PT → Nat
  | .nil => 0
  | .one _ p => p.len + 1
  | .alt _ _ p _ => p.len + 1
def PT.of : List Nat → PT
  | [] => .nil
  | i :: l => .one i (PT.of l)
def planB (P : Program) (ops : Array Oper) : PT → Array Bool → Bool
  | .nil, L => (Region.ready .any ops L).isEmpty
  | .one i plan, L => (match clsEff P ops i with
      | true => (match Region.ready .any ops L with | [j] => Nat.beq j i | _ => false)
      | false => (Region.ready .any ops L).contains i && Region.free .any ops L i) && planB P ops plan (L.setIfInBounds i true)
  | .alt i j p q, L => (match Region.ready .any ops L with | [k, l] => Nat.beq k i && Nat.beq l j | _ => false) && (clsEff P ops i && clsEff P ops j && Nat.beq p.len q.len) && (planB P ops p (L.setIfInBounds i true) && planB P ops q (L.setIfInBounds j true))
def shOne (P : Program) (pan : Pan) (n : Nat) (ops : Array Oper) (i : Nat) (pend : List (Nat × (World → Prop))) (C : List (Nat × (World → Prop)) → Env → World → Prop) (e : Env) (w : World) : Prop :=
  match ops[i]? with
    | some o => match putOk n o.dst with
      | true => shGuard ops o e
          (fun e => match known o e with
            | true => (match isPure P o.op with
              | true => shPure P o e fun v => C pend (e.put o.dst v) w
              | false => match o.op with
                | .load t a => shLoad P t (evd e a) w fun v D => C ((i, D) :: pend) (e.put o.dst v) w
                | _ => shEff P pan o e w fun v w' => allP (pend.filter (keepB ops i)) w' (C (pend.filter (keepB ops i)) (e.put o.dst v) w'))
            | false => False)
          fun e => match clsEff P ops i with
            | true => C (pend.filter (keepB ops i)) (e.put o.dst undef) w
            | false => C pend (e.put o.dst undef) w
      | false => False
    | none => False
def shPlan (P : Program) (pan : Pan) (n : Nat) (ops : Array Oper) : PT → List (Nat × (World → Prop)) → (Env → World → Prop) → Env → World → Prop
  | .nil, _, K, e, w => K e w
  | .one i plan, pend, K, e, w => shOne P pan n ops i pend (fun pend e w => shPlan P pan n ops plan pend K e w) e w
  | .alt i j p q, pend, K, e, w => shOne P pan n ops i pend (fun pend e w => shPlan P pan n ops p pend K e w) e w ∧ shOne P pan n ops j pend (fun pend e w => shPlan P pan n ops q pend K e w) e w

def Spend (P : Program) (ops : Array Oper) (pend : List (Nat × (World → Prop))) (L : Array Bool) (w : World) : Prop :=
  ∀ p ∈ pend, (∀ j, L.getD j false = true → clsEff P ops j = true → depB .any ops ops.size j p.1 = false) → p.2 w
theorem Spend_set {P : Program} {ops : Array Oper} {pend : List (Nat × (World → Prop))} {i : Nat} (hi : clsEff P ops i = false) {L : Array Bool} {w : World}
    (h : Spend P ops pend (L.setIfInBounds i true) w) : Spend P ops pend L w := fun p hp hc => h p hp fun j hj hej => by
  rcases getD_set_cases hj with rfl | hj
  · rw [hi] at hej; cases hej
  · exact hc j hj hej

theorem wpAnyG_only {P : Program} {ops : Array Oper} {Q : Exit → Act → World → Prop} {S : Array Bool → World → Prop} {i : Nat} {fuel : Nat} {L : Array Bool} {a : Act} {w : World}
    (hr : Region.ready .any ops L = [i]) (h : wpOp P ops Q i (fun a' w' => S (L.setIfInBounds i true) w' ∧ wpAnyG P .any ops Q S fuel (L.setIfInBounds i true) a' w') a w) :
    wpAnyG P .any ops Q S (fuel + 1) L a w := by
  refine ⟨fun h0 => ?_, fun j hj => ?_⟩
  · rw [hr] at h0; cases h0
  · rw [hr] at hj
    obtain rfl : j = i := by simpa using hj
    exact h

/-- One operation of a plan: what its formula gives. -/
theorem shOne_sound {P : Program} {pan : Pan} {n : Nat} {ds : List Deferred} {ops : Array Oper} {Q : Exit → Act → World → Prop} (hsel : Region.noSelect ops = true)
    (hQ : ∀ (o : Oper) (v : Value), o ∈ ops.toList → ∀ c a w, Q (.panic c) (a.put o.dst v) w → Q (.panic c) a w) {a0 : Act} (hP : ∀ c a' w', pan.p c w' → a'.defers = ds → Same (dsts ops.toList) a0 a' → Q (.panic c) a' w')
    {i : Nat} {pend : List (Nat × (World → Prop))} {L : Array Bool} {e : Env} {a : Act} {w : World} {fuel : Nat} {C : List (Nat × (World → Prop)) → Env → World → Prop}
    (hL : Closed .any ops L) (hr : Rep n ds e a) (hs : Same (dsts ops.toList) a0 a) (hS : Spend P ops pend L w) (hrdy : i ∈ Region.ready .any ops L)
    (hC : ∀ pend' e' a' w', Rep n ds e' a' → Same (dsts ops.toList) a0 a' → Spend P ops pend' (L.setIfInBounds i true) w' → C pend' e' w' → wpAnyG P .any ops Q (Spend P ops pend') fuel (L.setIfInBounds i true) a' w')
    (h : shOne P pan n ops i pend C e w) :
    (clsEff P ops i = true → wpOp P ops Q i (fun a' w' => Spend P ops pend (L.setIfInBounds i true) w' ∧ wpAnyG P .any ops Q (Spend P ops pend) fuel (L.setIfInBounds i true) a' w') a w) ∧
    (clsEff P ops i = false → Region.free .any ops L i = true → wpAnyG P .any ops Q (Spend P ops pend) (fuel + 1) L a w) := by
    unfold shOne at h
    cases ho : ops[i]? with
    | none => simp only [ho] at h
    | some o =>
    simp only [ho] at h
    split at h
    case h_2 => exact h.elim
    rename_i hp
    obtain ⟨e', hr', h⟩ := shGuard_sound hr h
    have hmem : o ∈ ops.toList := by simpa using Array.mem_of_getElem? ho
    have hdst : ∀ l : List Oper, o ∈ l → ∀ t, t ∈ o.dst.toList → t ∈ dsts l := by
      intro l
      induction l with
      | nil => intro h; cases h
      | cons x xs ih =>
        intro h t ht
        simp only [dsts, List.mem_append]
        rcases List.mem_cons.1 h with rfl | h
        · exact .inl ht
        · exact .inr (ih h t ht)
    have hs' : ∀ v (a' : Act), Same (dsts ops.toList) a0 a' → Same (dsts ops.toList) a0 (a'.put o.dst v) := fun v a' h' t ht => by
      have h1 := Same.put a' o.dst v t (fun hm => ht (hdst _ hmem t hm))
      rw [h1]; exact h' t ht
    have hselF : ∀ (j : Nat) (o : Oper) cs b, ops[j]? = some o → o.op ≠ .select cs b := Region.noSelect_spec hsel
    have hiL := (ready_lt (md := .any) (ops := ops) (L := L) (i := i) hrdy).2
    -- a reader that is taken first
    have take : ∀ (v : Value) (D : World → Prop) (pend' : List (Nat × (World → Prop))), YieldsIf P ops D o v a → D w →
        (∀ L' w', Spend P ops pend' L' w' → Spend P ops pend L' w' ∧ ((∀ j, L'.getD j false = true → clsEff P ops j = true → depB .any ops ops.size j i = false) → D w')) →
        Spend P ops pend' (L.setIfInBounds i true) w → Spend P ops pend (L.setIfInBounds i true) w →
        C pend' (e'.put o.dst v) w → clsEff P ops i = false → Region.free .any ops L i = true → wpAnyG P .any ops Q (Spend P ops pend) (fuel + 1) L a w := by
      intro v D pend' hy hD hconv hS1 hS2 h hcls hfree
      refine wpAnyG_take (eff := clsEff P ops) (F := ops.size) (i := i) (v := v) (C := D) ho hselF (hQ o v hmem) hcls (fun L w => Spend_set hcls) fuel L a w hL (Region.free_spec ho hfree) hrdy hy hD hS2 ?_
      exact wpAnyG_mono _ _ _ _ (fun L' w' _ h' => hconv L' w' h') (hC pend' (e'.put o.dst v) (a.put o.dst v) w (hr'.put hp v) (hs' v a hs) hS1 h)
    have conv : clsEff P ops i = true → ∀ L' w'', (∀ k, (L.setIfInBounds i true).getD k false = true → L'.getD k false = true) → Spend P ops (pend.filter (keepB ops i)) L' w'' → Spend P ops pend L' w'' := by
      intro hcls L' w'' hLL h' p hp' hc
      refine h' p (List.mem_filter.2 ⟨hp', ?_⟩) hc
      simp only [keepB, hc i (hLL i (getD_set_self hiL)) hcls, Bool.not_false]
    have hS1 : Spend P ops pend (L.setIfInBounds i true) w := fun p hp' hc => hS p hp' fun j hj => hc j (getD_set_true hj)
    rcases h with ⟨hw, h⟩ | ⟨hw, h⟩
    · split at h
      case h_2 => exact h.elim
      rename_i hk
      split at h
      · -- pure
        rename_i hpu
        obtain ⟨v, hrun, hKv⟩ := shPure_sound h
        have hcls : clsEff P ops i = false := by simp [clsEff, ho, hpu]
        exact ⟨fun hc => (by rw [hcls] at hc; cases hc), take v (fun _ => True) pend (.inl ⟨hw, fun w' _ => by rw [known_exec hr' hk]; exact hrun w'⟩) trivial (fun _ _ h' => ⟨h', fun _ => trivial⟩) hS1 hS1 hKv⟩
      · rename_i hpu
        split at h
        · -- a load
          rename_i t x hop
          have hcls : clsEff P ops i = false := by simp [clsEff, ho, hop, isLoad]
          obtain ⟨v, D, hD, hrun, hKv⟩ := shLoad_sound hop h
          have hS2 : Spend P ops ((i, D) :: pend) (L.setIfInBounds i true) w := by
            intro p hp' hc
            rcases List.mem_cons.1 hp' with rfl | hp'
            · exact hD
            · exact hS1 p hp' hc
          exact ⟨fun hc => (by rw [hcls] at hc; cases hc), take v D ((i, D) :: pend) (.inl ⟨hw, fun w' hw' => by rw [known_exec hr' hk]; exact hrun w' hw'⟩) hD
            (fun L' w' h' => ⟨fun p hp' hc => h' p (List.mem_cons_of_mem _ hp') hc, fun hc => h' (i, D) (List.mem_cons_self ..) hc⟩) hS2 hS1 hKv⟩
        · -- an effect
          rename_i hnl
          have hcls : clsEff P ops i = true := by
            have : isLoad o.op = false := by
              unfold isLoad; split
              · rename_i hop; exact absurd hop (hnl _ _)
              · rfl
            simp [clsEff, ho, hpu, this]
          refine ⟨fun _ => ?_, fun hc => (by rw [hcls] at hc; cases hc)⟩
          unfold wpOp
          simp only [ho, hw, if_true]
          refine .inl (shEff_sound hr' hk (fun c w' hc => hP c a w' hc hr'.defers hs) (fun v w' hv => ?_) h)
          obtain ⟨hpend, hv⟩ := allP_spec hv
          have hS' : Spend P ops (pend.filter (keepB ops i)) (L.setIfInBounds i true) w' := fun p hp' _ => hpend p hp'
          refine ⟨conv hcls _ _ (fun _ h => h) hS', ?_⟩
          exact wpAnyG_mono _ _ _ _ (conv hcls) (hC (pend.filter (keepB ops i)) (e'.put o.dst v) (a.put o.dst v) w' (hr'.put hp v) (hs' v a hs) hS' hv)
    · -- passed over
      split at h
      · rename_i hcls
        refine ⟨fun _ => ?_, fun hc => (by rw [hcls] at hc; cases hc)⟩
        unfold wpOp
        simp only [ho, hw, Bool.false_eq_true, if_false]
        have hS' : Spend P ops (pend.filter (keepB ops i)) (L.setIfInBounds i true) w := fun p hp' hc => hS1 p (List.mem_filter.1 hp').1 hc
        refine ⟨hS1, ?_⟩
        exact wpAnyG_mono _ _ _ _ (conv hcls) (hC (pend.filter (keepB ops i)) (e'.put o.dst undef) (a.put o.dst undef) w (hr'.put hp undef) (hs' undef a hs) hS' h)
      · rename_i hcls
        exact ⟨fun hc => (by rw [hcls] at hc; cases hc), take undef (fun _ => True) pend (.inr ⟨hw, rfl⟩) trivial (fun _ _ h' => ⟨h', fun _ => trivial⟩) hS1 hS1 h⟩
theorem shPlan_sound {P : Program} {pan : Pan} {n : Nat} {ds : List Deferred} {ops : Array Oper} {Q : Exit → Act → World → Prop} {K : Env → World → Prop} (hsel : Region.noSelect ops = true)
    (hQ : ∀ (o : Oper) (v : Value), o ∈ ops.toList → ∀ c a w, Q (.panic c) (a.put o.dst v) w → Q (.panic c) a w) {a0 : Act} (hP : ∀ c a' w', pan.p c w' → a'.defers = ds → Same (dsts ops.toList) a0 a' → Q (.panic c) a' w') (hK : ∀ e' a' w', K e' w' → Rep n ds e' a' → Same (dsts ops.toList) a0 a' → Q .normal a' w') :
    ∀ (plan : PT) (pend : List (Nat × (World → Prop))) (L : Array Bool) (e : Env) (a : Act) (w : World),
    planB P ops plan L = true → Closed .any ops L → Rep n ds e a → Same (dsts ops.toList) a0 a → Spend P ops pend L w → shPlan P pan n ops plan pend K e w →
    wpAnyG P .any ops Q (Spend P ops pend) plan.len L a w
  | .nil, pend, L, e, a, w, hB, hL, hr, hs, hS, h => ⟨by simpa [planB] using hB, hK e a w h hr hs⟩
  | .one i plan, pend, L, e, a, w, hB, hL, hr, hs, hS, h => by
    simp only [planB, Bool.and_eq_true] at hB
    obtain ⟨hB1, hB2⟩ := hB
    have hrdy : i ∈ Region.ready .any ops L := by
      split at hB1
      · split at hB1
        · rename_i j hj; rw [hj, Nat.eq_of_beq_eq_true hB1]; simp
        · cases hB1
      · simp only [Bool.and_eq_true] at hB1
        simpa using hB1.1
    have key := shOne_sound (fuel := plan.len) hsel hQ hP hL hr hs hS hrdy (fun pend' e' a' w' hr1 hs1 hS1 h1 => shPlan_sound hsel hQ hP hK plan pend' _ e' a' w' hB2 (hL.set hrdy) hr1 hs1 hS1 h1) h
    show wpAnyG P .any ops Q (Spend P ops pend) (plan.len + 1) L a w
    cases hc : clsEff P ops i with
    | true =>
      rw [hc] at hB1
      simp only at hB1
      have hone : Region.ready .any ops L = [i] := by
        split at hB1
        · rename_i j hj; rw [hj, Nat.eq_of_beq_eq_true hB1]
        · cases hB1
      exact wpAnyG_only hone (key.1 hc)
    | false =>
      rw [hc] at hB1
      simp only [Bool.and_eq_true] at hB1
      exact key.2 hc hB1.2
  | .alt i j p q, pend, L, e, a, w, hB, hL, hr, hs, hS, h => by
    simp only [planB, Bool.and_eq_true] at hB
    obtain ⟨⟨hB1, ⟨hci, hcj⟩, hlen⟩, hB2, hB3⟩ := hB
    have htwo : Region.ready .any ops L = [i, j] := by
      split at hB1
      · rename_i k l hj
        simp only [Bool.and_eq_true] at hB1
        rw [hj, Nat.eq_of_beq_eq_true hB1.1, Nat.eq_of_beq_eq_true hB1.2]
      · cases hB1
    have hi : i ∈ Region.ready .any ops L := by rw [htwo]; simp
    have hj : j ∈ Region.ready .any ops L := by rw [htwo]; simp
    have hlen : p.len = q.len := Nat.eq_of_beq_eq_true hlen
    have k1 := shOne_sound (fuel := p.len) hsel hQ hP hL hr hs hS hi (fun pend' e' a' w' hr1 hs1 hS1 h1 => shPlan_sound hsel hQ hP hK p pend' _ e' a' w' hB2 (hL.set hi) hr1 hs1 hS1 h1) h.1
    have k2 := shOne_sound (fuel := q.len) hsel hQ hP hL hr hs hS hj (fun pend' e' a' w' hr1 hs1 hS1 h1 => shPlan_sound hsel hQ hP hK q pend' _ e' a' w' hB3 (hL.set hj) hr1 hs1 hS1 h1) h.2
    show wpAnyG P .any ops Q (Spend P ops pend) (p.len + 1) L a w
    refine ⟨fun h0 => ?_, fun k hk => ?_⟩
    · rw [htwo] at h0; cases h0
    · rw [htwo] at hk
      rcases List.mem_cons.1 hk with rfl | hk
      · exact k1.1 hci
      · obtain rfl : k = j := by simpa using hk
        rw [hlen]
        exact k2.1 hcj

/-! ### 9. Code -/
def TupL : List (Nat × Kd) → Type
  | [] => Unit
  | p :: l => KT p.2 × TupL l
def KT.v : (k : Kd) → KT k → Value
  | .int k, n => .int k n
  | .b, x => .bool x
  | .str, s => .string s
  | .ptr, p => .pointer p
  | .sl, s => .slice s.a s.l s.c
  | .map, r => .map r
  | .any, v => v
  | .fn, v => .func v.f v.fs v.cs
def encL : (l : List (Nat × Kd)) → TupL l → Env
  | [], _ => []
  | p :: l, s => (p.1, KT.v p.2 s.1) :: encL l s.2
def decV : (k : Kd) → Value → (KT k → Prop) → Prop
  | .int k, v, K => match v with | .int k' n => iteB (decide (k' = k)) (K n) False | _ => False
  | .b, v, K => match v with | .bool x => K x | _ => False
  | .str, v, K => match v with | .string x => K x | _ => False
  | .ptr, v, K => match v with | .pointer x => K x | _ => False
  | .sl, v, K => match v with | .slice a l c => K ⟨a, l, c⟩ | _ => False
  | .map, v, K => match v with | .map x => K x | _ => False
  | .any, v, K => K v
  | .fn, v, K => match v with | .func f fs cs => K ⟨f, fs, cs⟩ | _ => False
theorem decV_spec {k : Kd} {v : Value} {K : KT k → Prop} (h : decV k v K) : ∃ x, v = KT.v k x ∧ K x := by
  cases k <;> simp only [decV] at h
  case any => exact ⟨v, rfl, h⟩
  all_goals cases v <;> simp only at h
  case int.int k k' n =>
    rcases iteB_cases h with ⟨hk, h⟩ | ⟨_, h⟩
    · obtain rfl := of_decide_eq_true hk; exact ⟨n, rfl, h⟩
    · exact h.elim
  all_goals exact ⟨_, rfl, h⟩
def decL : (l : List (Nat × Kd)) → Env → (TupL l → Prop) → Prop
  | [], _, K => K ()
  | p :: l, e, K => match e.get? p.1 with
    | some v => decV p.2 v fun x => decL l e fun r => K (x, r)
    | none => False
theorem decL_spec {e : Env} : ∀ {l : List (Nat × Kd)} {K : TupL l → Prop}, decL l e K → ∃ s, (∀ t v, (encL l s).get? t = some v → e.get? t = some v) ∧ K s
  | [], K, h => ⟨(), fun t v hv => by simp [encL, Env.get?] at hv, h⟩
  | p :: l, K, h => by
    unfold decL at h
    split at h
    · rename_i v hv
      obtain ⟨x, hvx, h1⟩ := decV_spec h
      obtain ⟨s, hs, h2⟩ := decL_spec h1
      refine ⟨(x, s), fun t u hu => ?_, h2⟩
      rw [hvx] at hv
      simp only [encL, Env.get?] at hu
      split at hu
      · rename_i hb
        obtain rfl := Nat.eq_of_beq_eq_true hb
        cases hu; exact hv
      · exact hs t u hu
    · exact h.elim
def keepE : List Nat → Env → Env
  | [], _ => []
  | t :: ts, e => match e.get? t with | some v => (t, v) :: keepE ts e | none => keepE ts e
theorem keepE_spec {e : Env} : ∀ {ts : List Nat} {t : Nat} {v : Value}, (keepE ts e).get? t = some v → t ∈ ts ∧ e.get? t = some v
  | [], t, v, h => by simp [keepE, Env.get?] at h
  | s :: ts, t, v, h => by
    unfold keepE at h
    split at h
    · rename_i u hu
      simp only [Env.get?] at h
      split at h
      · rename_i hb
        obtain rfl := Nat.eq_of_beq_eq_true hb
        cases h; exact ⟨by simp, hu⟩
      · have := keepE_spec h; exact ⟨List.mem_cons_of_mem _ this.1, this.2⟩
    · have := keepE_spec h; exact ⟨List.mem_cons_of_mem _ this.1, this.2⟩
theorem Env.get?_append {e e' : Env} {t : Nat} {v : Value} : (e ++ e').get? t = some v → e.get? t = some v ∨ e'.get? t = some v := by
  induction e with
  | nil => exact .inr
  | cons p e ih =>
    obtain ⟨k, u⟩ := p
    simp only [List.cons_append, Env.get?]
    split
    · exact .inl
    · exact ih
def wr : Code → List Tmp
  | .region _ ops _ => dsts ops.toList
  | .seq a b => wr a ++ wr b
  | .cond _ a b => wr a ++ wr b
  | .block _ c => wr c
  | .loop c => wr c
  | .scope c => wr c
  | _ => []
def firstR : Code → Option Nat
  | .region id _ _ => some id
  | .seq a b => match firstR a with | some i => some i | none => firstR b
  | .cond _ a b => match firstR a with | some i => some i | none => firstR b
  | .block _ c => firstR c
  | .loop c => firstR c
  | .scope c => firstR c
  | _ => none
structure Ann where
  plan : List (Nat × PT)
  loop : List (Nat × List (Nat × Kd) × List Nat)
  join : List (Nat × List (Nat × Kd) × List Nat)
def lk {α : Type} : List (Nat × α) → Option Nat → Option α
  | [], _ => none
  | (k, x) :: l, some i => match Nat.beq k i with | true => some x | false => lk l (some i)
  | _, none => none
def itN {σ : Type} (body : σ → (σ → World → Prop) → World → Prop) : Nat → σ → World → Prop
  | 0, _, _ => False
  | n + 1, s, w => body s (itN body n) w
def loopP {σ : Type} (body : σ → (σ → World → Prop) → World → Prop) (s : σ) (w : World) : Prop := ∃ n, itN body n s w
def joinP {σ : Type} (X : (σ → World → Prop) → Prop) (Y : σ → World → Prop) : Prop := ∃ J : σ → World → Prop, (∀ s w, J s w → Y s w) ∧ X J
def noneIn (ts ws : List Nat) : Bool := ts.all fun t => !(ws.any fun u => Nat.beq u t)
def thenE (K : Exit → Env → World → Prop) (N : Env → World → Prop) : Exit → Env → World → Prop
  | .normal, e, w => N e w
  | ex, e, w => K ex e w
def learn (c : Operand) (b : Bool) (e : Env) : Env := match c with | .tmp t => (t, .bool b) :: e | _ => e
def noGotoE (K : Exit → Env → World → Prop) : Exit → Env → World → Prop
  | .goto _, _, _ => False
  | ex, e, w => K ex e w
def blockE (id : Nat) (K : Exit → Env → World → Prop) : Exit → Env → World → Prop
  | .exit j, e, w => match Nat.beq j id with | true => K .normal e w | false => K (.exit j) e w
  | ex, e, w => K ex e w
def noPan (K : Exit → Env → World → Prop) : Exit → Env → World → Prop
  | .panic _, _, _ => False
  | .outgrown, _, _ => False
  | ex, e, w => K ex e w

def shC (P : Program) (pan : Pan) (n : Nat) (an : Ann) : Code → (Exit → Env → World → Prop) → Env → World → Prop
  | .skip, K, e, w => K .normal e w
  | .label _, K, e, w => K .normal e w
  | .ret, K, e, w => K .ret e w
  | .exit id, K, e, w => K (.exit id) e w
  | .region _ ops false, K, e, w => shOps P pan n ops ops.toList (K .normal) e w
  | .region id ops true, K, e, w => match lk an.plan (some id) with
    | some plan => (match P.follows .mixedOrders && Region.noSelect ops && Nat.beq plan.len ops.size && planB P ops plan (Array.replicate ops.size false) with
      | true => shPlan P pan n ops plan [] (K .normal) e w.drew
      | false => False)
    | none => False
  | .seq x y, K, e, w => match lk an.join (firstR y) with
    | none => shC P pan n an x (thenE K fun e' w' => shC P pan n an y K e' w') e w
    | some (l, keep) => match noneIn keep (wr x) with
      | true => joinP (σ := TupL l) (fun J => shC P pan n an x (thenE K fun e' w' => decL l e' fun s => J s w') e w) fun s w' => shC P pan n an y K (encL l s ++ keepE keep e) w'
      | false => False
  | .cond c x y, K, e, w => match ev e c with
    | some (.bool b) => iteB b (shC P pan n an x K (learn c true e) w) (shC P pan n an y K (learn c false e) w)
    | _ => False
  | .block id c, K, e, w => shC P pan n an c (blockE id K) e w
  | .scope c, K, e, w => shC P pan n an c (noGotoE K) e w
  | .loop c, K, e, w => match lk an.loop (firstR c) with
    | some (l, keep) => match noneIn keep (wr c) with
      | true => decL l e fun s => loopP (σ := TupL l) (fun s next w' => shC P pan n an c (thenE K fun e' w'' => decL l e' fun s' => next s' w'') (encL l s ++ keepE keep e) w') s w
      | false => False
    | none => False
  | _, _, _, _ => False

theorem Rep.keep {n : Nat} {ds : List Deferred} {e e1 : Env} {a a1 : Act} {l : List (Nat × Kd)} {s : TupL l} {keep ws : List Nat} (hr : Rep n ds e a) (hr1 : Rep n ds e1 a1) (hs : Same ws a a1)
    (hn : noneIn keep ws = true) (hd : ∀ t v, (encL l s).get? t = some v → e1.get? t = some v) : Rep n ds (encL l s ++ keepE keep e) a1 :=
  ⟨hr1.size, hr1.defers, fun t v hv => by
    rcases Env.get?_append hv with h | h
    · exact hr1.at_ t v (hd t v h)
    · obtain ⟨ht, h⟩ := keepE_spec h
      have hnot : t ∉ ws := fun hm => by
        have h1 := List.all_eq_true.1 hn t ht
        simp only [Bool.not_eq_true', List.any_eq_false] at h1
        exact h1 t hm (Nat.beq_refl t)
      rw [hs t hnot]; exact hr.at_ t v h⟩

theorem Rep.learn {n : Nat} {ds : List Deferred} {e : Env} {a : Act} {c : Operand} {b : Bool} (hr : Rep n ds e a) (hb : ev e c = some (.bool b)) : Rep n ds (Sh.learn c b e) a := by
  cases c with
  | tmp t => exact hr.again hb
  | _ => exact hr
/-- What the code comes to. -/
def PostE (pan : Pan) (n : Nat) (ds : List Deferred) (ws : List Nat) (K : Exit → Env → World → Prop) (a : Act) : Exit → Act → World → Prop := fun ex a' w' =>
  (∃ e', K ex e' w' ∧ Rep n ds e' a' ∧ Same ws a a') ∨ (∃ c, ex = .panic c ∧ pan.p c w' ∧ a'.defers = ds ∧ Same ws a a')
theorem PostE.mono {pan : Pan} {n : Nat} {ds : List Deferred} {ws ws' : List Nat} {K K' : Exit → Env → World → Prop} {a a' : Act} {ex : Exit} {w' : World}
    (h : PostE pan n ds ws K a ex a' w') (hs : ∀ t, t ∈ ws → t ∈ ws') (hK : ∀ e w, K ex e w → K' ex e w) : PostE pan n ds ws' K' a ex a' w' := by
  rcases h with ⟨e', h1, h2, h3⟩ | ⟨c, h0, h1, h2, h3⟩
  · exact .inl ⟨e', hK _ _ h1, h2, h3.mono hs⟩
  · exact .inr ⟨c, h0, h1, h2, h3.mono hs⟩
theorem PostE.before {pan : Pan} {n : Nat} {ds : List Deferred} {ws0 ws : List Nat} {K : Exit → Env → World → Prop} {a0 a a' : Act} {ex : Exit} {w' : World}
    (hs : Same ws0 a0 a) (h : PostE pan n ds ws K a ex a' w') : PostE pan n ds (ws0 ++ ws) K a0 ex a' w' := by
  rcases h with ⟨e', h1, h2, h3⟩ | ⟨c, h0, h1, h2, h3⟩
  · exact .inl ⟨e', h1, h2, hs.trans h3⟩
  · exact .inr ⟨c, h0, h1, h2, hs.trans h3⟩
/-- Where it does not panic. -/
theorem PostE.keeps {pan : Pan} {n : Nat} {ds : List Deferred} {ws : List Nat} {K : Exit → Env → World → Prop} {a a' : Act} {ex : Exit} {w' : World}
    (h : PostE pan n ds ws K a ex a' w') (hx : ∀ c, ex ≠ .panic c) : ∃ e', K ex e' w' ∧ Rep n ds e' a' ∧ Same ws a a' := by
  rcases h with h | ⟨c, h0, _⟩
  · exact h
  · exact absurd h0 (hx c)

theorem shC_sound {P : Program} {pan : Pan} {n : Nat} {ds : List Deferred} {an : Ann} : ∀ (c : Code) (K : Exit → Env → World → Prop) (e : Env) (a : Act) (w : World), (∀ ch e w, ¬ K (.panic ch) e w) → Rep n ds e a → shC P pan n an c K e w →
    c.wp P (PostE pan n ds (wr c) K a) a w := by
  intro c
  induction c with
  | skip => exact fun K e a w _ hr h => wp_skip (.inl ⟨e, h, hr, Same.refl _ _⟩)
  | label l => exact fun K e a w _ hr h => wp_label (.inl ⟨e, h, hr, Same.refl _ _⟩)
  | ret => exact fun K e a w _ hr h => wp_ret (.inl ⟨e, h, hr, Same.refl _ _⟩)
  | exit id => exact fun K e a w _ hr h => wp_exit (.inl ⟨e, h, hr, Same.refl _ _⟩)
  | region id ops draw =>
    intro K e a w hK hr h
    cases draw with
    | false => exact wp_region_list (shOps_sound hr (fun c a' w' h1 h2 h3 => .inr ⟨c, rfl, h1, h2, h3⟩) (fun e' a' w' h1 h2 h3 => .inl ⟨e', h1, h2, h3⟩) h)
    | true =>
      simp only [shC] at h
      split at h
      · rename_i plan hplan
        split at h
        · rename_i hb
          simp only [Bool.and_eq_true] at hb
          obtain ⟨⟨⟨hm, hsel⟩, hlen⟩, hB⟩ := hb
          have hlen := Nat.eq_of_beq_eq_true hlen
          have hcl : Closed .any ops (Array.replicate ops.size false) := fun j o _ hj => by
            have : (Array.replicate ops.size false).getD j false = false := by
              rcases Nat.lt_or_ge j ops.size with h | h <;> simp [h]
            rw [this] at hj; cases hj
          refine wp_region_any hm (wpAny_of_G (S := Spend P ops []) _ _ _ _ ?_)
          have hdst : ∀ (l : List Oper) (o : Oper), o ∈ l → ∀ t, t ∈ o.dst.toList → t ∈ dsts l := by
            intro l o
            induction l with
            | nil => intro h; cases h
            | cons x xs ih =>
              intro h t ht
              simp only [dsts, List.mem_append]
              rcases List.mem_cons.1 h with rfl | h
              · exact .inl ht
              · exact .inr (ih h t ht)
          have hQ : ∀ (o : Oper) (v : Value), o ∈ ops.toList → ∀ c a1 w, PostE pan n ds (wr (.region id ops true)) K a (.panic c) (a1.put o.dst v) w → PostE pan n ds (wr (.region id ops true)) K a (.panic c) a1 w := by
            rintro o v ho c a1 w (⟨e', h1, _⟩ | ⟨c', h0, h1, h2, h3⟩)
            · exact absurd h1 (hK _ _ _)
            · refine .inr ⟨c', h0, h1, ?_, fun t ht => ?_⟩
              · rw [← h2]; cases o.dst <;> rfl
              · rw [← h3 t ht]
                exact (Same.put a1 o.dst v t (fun hm => ht (hdst _ _ ho t hm))).symm
          have := shPlan_sound (P := P) (pan := pan) (n := n) (ds := ds) (ops := ops) (Q := PostE pan n ds (wr (.region id ops true)) K a) (K := K .normal) (a0 := a) hsel hQ (fun c a' w' h1 h2 h3 => .inr ⟨c, rfl, h1, h2, h3⟩) (fun e' a' w' h1 h2 h3 => .inl ⟨e', h1, h2, h3⟩) plan [] _ e a _ hB hcl hr (Same.refl _ _) (fun p hp => by cases hp) h
          rw [hlen] at this
          exact this
        · exact h.elim
      · exact h.elim
  | seq x y ihx ihy =>
    intro K e a w hK hr h
    simp only [shC] at h
    have comb : ∀ (a1 : Act) (w1 : World), Same (wr x) a a1 → y.wp P (PostE pan n ds (wr y) K a1) a1 w1 → y.wp P (PostE pan n ds (wr (.seq x y)) K a) a1 w1 := fun a1 w1 hs h =>
      Code.wp_mono (fun ex a' w' hq => PostE.before hs hq) h
    have other : ∀ {N : Env → World → Prop} {ex : Exit} {a' : Act} {w' : World}, ex ≠ .normal → PostE pan n ds (wr x) (thenE K N) a ex a' w' → PostE pan n ds (wr (.seq x y)) K a ex a' w' := by
      rintro N ex a' w' hne hq
      refine hq.mono (fun t ht => by simp [wr, ht]) fun e w h1 => ?_
      cases ex <;> first | exact absurd rfl hne | exact h1
    split at h
    · refine wp_seq (Code.wp_mono (fun ex a1 w1 hq => ?_) (ihx _ e a w ?_ hr h))
      · cases ex
        case normal => obtain ⟨e1, h1, h2, h3⟩ := hq.keeps (fun c => by simp); exact comb a1 w1 h3 (ihy K e1 a1 w1 hK h2 h1)
        all_goals exact other (by simp) hq
      · exact fun ch e w => hK ch e w
    · rename_i l keep hj
      split at h
      · rename_i hn
        obtain ⟨J, hJ, h⟩ := h
        refine wp_seq (Code.wp_mono (fun ex a1 w1 hq => ?_) (ihx _ e a w ?_ hr h))
        · cases ex
          case normal =>
            obtain ⟨e1, h1, h2, h3⟩ := hq.keeps (fun c => by simp)
            obtain ⟨s, hs, h1⟩ := decL_spec h1
            exact comb a1 w1 h3 (ihy K _ a1 w1 hK (hr.keep h2 h3 hn hs) (hJ _ _ h1))
          all_goals exact other (by simp) hq
        · exact fun ch e w => hK ch e w
      · exact h.elim
  | cond c x y ihx ihy =>
    intro K e a w hK hr h
    simp only [shC] at h
    split at h
    · rename_i b hb
      have hev : a.eval c = .bool b := by rw [hr.eval (by rw [hb]; rfl)]; simp [evd, hb]
      rcases iteB_cases h with ⟨rfl, h⟩ | ⟨rfl, h⟩
      · exact wp_cond_true hev (Code.wp_mono (fun ex a' w' hq => hq.mono (fun t ht => by simp [wr, ht]) fun _ _ h => h) (ihx K _ a w hK (hr.learn hb) h))
      · exact wp_cond_false hev (Code.wp_mono (fun ex a' w' hq => hq.mono (fun t ht => by simp [wr, ht]) fun _ _ h => h) (ihy K _ a w hK (hr.learn hb) h))
    · exact h.elim
  | block id c ih =>
    intro K e a w hK hr h
    refine wp_block (Code.wp_mono (fun ex a1 w1 hq => ?_) (ih (blockE id K) e a w (fun ch e w => hK ch e w) hr h))
    cases ex with
    | exit j =>
      obtain ⟨e1, h1, h2, h3⟩ := hq.keeps (fun c => by simp)
      simp only [blockE] at h1
      by_cases hj : j = id
      · subst hj
        simp only [Nat.beq_refl] at h1
        simp only [Exit.inBlock, if_true]
        exact .inl ⟨e1, h1, h2, h3⟩
      · have : Nat.beq j id = false := by
          rw [Bool.eq_false_iff]; exact fun h => hj (Nat.eq_of_beq_eq_true h)
        simp only [this] at h1
        simp only [Exit.inBlock, hj, if_false]
        exact .inl ⟨e1, h1, h2, h3⟩
    | _ => exact hq.mono (fun t ht => ht) fun _ _ h => h
  | loop c ih =>
    intro K e a w hK hr h
    simp only [shC] at h
    split at h
    · rename_i l keep hl
      split at h
      · rename_i hn
        obtain ⟨s, hs, m, h⟩ := decL_spec h
        refine wp_loop_rounds m ?_
        have main : ∀ m (s : TupL l) (a1 : Act) (w1 : World), Rep n ds (encL l s ++ keepE keep e) a1 → Same (wr c) a a1 →
            itN (fun s next w' => shC P pan n an c (thenE K fun e' w'' => decL l e' fun s' => next s' w'') (encL l s ++ keepE keep e) w') m s w1 →
            Code.rounds P c (PostE pan n ds (wr (.loop c)) K a) m a1 w1 := by
          intro m
          induction m with
          | zero => exact fun s a1 w1 _ _ h => h.elim
          | succ m ihm =>
            intro s a1 w1 hr1 hs1 h
            rw [rounds_succ]
            have h' : shC P pan n an c (thenE K fun e' w'' => decL l e' fun s' => itN (fun s next w' => shC P pan n an c (thenE K fun e' w'' => decL l e' fun s' => next s' w'') (encL l s ++ keepE keep e) w') m s' w'') (encL l s ++ keepE keep e) w1 := h
            refine Code.wp_mono (fun ex a2 w2 hq => ?_) (ih _ _ a1 w1 ?_ hr1 h')
            rotate_left
            · exact fun ch e w => hK ch e w
            cases ex with
            | normal =>
              obtain ⟨e2, h1, h2, h3⟩ := hq.keeps (fun c => by simp)
              have hs2 : Same (wr c) a a2 := (hs1.trans h3).mono fun t ht => by simpa using ht
              obtain ⟨s', hs', h1⟩ := decL_spec h1
              exact ihm s' a2 w2 (hr.keep h2 hs2 hn hs') hs2 h1
            | _ => exact (PostE.before hs1 hq).mono (fun t ht => by simpa [wr] using ht) fun _ _ h => h
        exact main m s a w (hr.keep hr (Same.refl _ _) hn hs) (Same.refl _ _) h
      · exact h.elim
    · exact h.elim
  | scope c ih =>
    intro K e a w hK hr h
    refine wp_scope_straight (Code.wp_mono (fun ex a1 w1 hq => ?_) (ih (noGotoE K) e a w (fun ch e w => hK ch e w) hr h))
    cases ex with
    | goto l => obtain ⟨e1, h1, h2, h3⟩ := hq.keeps (fun c => by simp); exact h1.elim
    | _ => exact hq.mono (fun t ht => ht) fun _ _ h => h
  | _ => exact fun K e a w _ _ h => h.elim

/-! ### 10. A function -/
def shResL (P : Program) (e : Env) (w : World) : List ResultVar → (List Value → Prop) → Prop
  | [], K => K []
  | .tmp t :: rs, K => match e.get? t with | some v => shResL P e w rs fun vs => K (v :: vs) | none => False
  | .cell a t :: rs, K => match e.get? a with | some p => shLoad P t p w fun v _ => shResL P e w rs fun vs => K (v :: vs) | none => False
def shRes (P : Program) (fn : Func) (R : Value → World → Prop) (e : Env) (w : World) : Prop :=
  match fn.results.toList with
  | [.tmp t] => match e.get? t with | some v => R v w | none => False
  | [.tmp t, .tmp u] => match e.get? t, e.get? u with | some v, some x => R (.tuple #[v, x]) w | _, _ => False
  | [.tmp t, .tmp u, .tmp s] => match e.get? t, e.get? u, e.get? s with | some v, some x, some y => R (.tuple #[v, x, y]) w | _, _, _ => False
  | [.tmp t, .tmp u, .tmp s, .tmp r] => match e.get? t, e.get? u, e.get? s, e.get? r with | some v, some x, some y, some z => R (.tuple #[v, x, y, z]) w | _, _, _, _ => False
  | [] => R (.tuple #[]) w
  | [.cell a t] => match e.get? a with | some p => shLoad P t p w fun v _ => R v w | none => False
  | [.cell a t, .tmp u] => match e.get? a, e.get? u with | some p, some x => shLoad P t p w fun v _ => R (.tuple #[v, x]) w | _, _ => False
  | r1 :: r2 :: rs => shResL P e w (r1 :: r2 :: rs) fun vs => R (.tuple vs.toArray) w
def argsE : List Value → Nat → Env
  | [], _ => []
  | v :: vs, i => (i, v) :: argsE vs (i + 1)
def endK (P : Program) (fn : Func) (R : Value → World → Prop) : Exit → Env → World → Prop
  | .normal, e, w => shRes P fn R e w
  | .ret, e, w => shRes P fn R e w
  | _, _, _ => False
def shFX (P : Program) (f : FuncId) (an : Ann) (args : List Value) (w : World) (R : Value → World → Prop) (pan : Pan) : Prop :=
  match P.funcs[f]? with
  | some fn => match fn.body with
    | some c => (match Nat.ble args.length fn.ntmps with | true => shC P pan fn.ntmps an c (endK P fn R) (argsE args 0) w | false => False)
    | none => False
  | none => False
def shF (P : Program) (f : FuncId) (an : Ann) (args : List Value) (w : World) (R : Value → World → Prop) : Prop := shFX P f an args w R nop

theorem argsE_get : ∀ {vs : List Value} {i t : Nat} {v : Value}, (argsE vs i).get? t = some v → i ≤ t ∧ vs[t - i]? = some v
  | [], i, t, v, h => by simp [argsE, Env.get?] at h
  | u :: vs, i, t, v, h => by
    simp only [argsE, Env.get?] at h
    split at h
    · rename_i hb
      obtain rfl := Nat.eq_of_beq_eq_true hb
      cases h; simp
    · obtain ⟨h1, h2⟩ := argsE_get h
      refine ⟨by omega, ?_⟩
      rw [show t - i = (t - (i + 1)) + 1 by omega]
      simpa using h2
theorem shResL_sound {P : Program} {n : Nat} {ds : List Deferred} {e : Env} {a : Act} {w : World} (hr : Rep n ds e a) : ∀ {rs : List ResultVar} {K : List Value → Prop}, shResL P e w rs K →
    ∃ vs : List Value, (rs.mapM fun (r : ResultVar) => match r with | .tmp t => (pure (a.tmps.getD t undef) : Sem Value) | .cell b t => do loadVar t (← asAddr (a.tmps.getD b undef))).run P w = .ok vs w ∧ vs.length = rs.length ∧ K vs
  | [], K, h => ⟨[], rfl, rfl, h⟩
  | .tmp t :: rs, K, h => by
    simp only [shResL] at h
    split at h
    · rename_i v hv
      obtain ⟨vs, h1, h2, h3⟩ := shResL_sound hr h
      refine ⟨v :: vs, ?_, by simp [h2], h3⟩
      simp only [List.mapM_cons, Sem.run_bind, Sem.run_pure, Result.andThen_ok, h1]
      simp [hr.at_ t v hv]
    · exact h.elim
  | .cell b t :: rs, K, h => by
    simp only [shResL] at h
    split at h
    · rename_i p hp
      obtain ⟨v, C, hC, hrun, h⟩ := shLoad_sound (o := { dst := none, op := .load t (.const p), type := 0, pos := "", after := #[], guard := none }) (e := []) rfl (show shLoad P t (evd [] (.const p)) w _ from h)
      obtain ⟨vs, h1, h2, h3⟩ := shResL_sound hr h
      have h4 := hrun w hC
      refine ⟨v :: vs, ?_, by simp [h2], h3⟩
      cases p <;> simp [execOp, Instr.loadAt, Instr.sureAddr, evd, ev] at h4
      rename_i q
      cases q <;> simp at h4
      rename_i q
      cases hl : (loadVar t q).run P w <;> simp [hl] at h4
      obtain ⟨rfl, rfl⟩ := h4
      have hb : (asAddr (a.tmps.getD b undef)) = pure q := by
        have : a.tmps.getD b undef = .pointer (some q) := by simp [hr.at_ _ _ hp]
        rw [this]; rfl
      simp only [List.mapM_cons, hb, Sem.run_bind, Sem.run_pure, Result.andThen_ok, hl, h1]
    · exact h.elim
theorem run_results {P : Program} {w : World} (fn : Func) (tmps : Array Value) {l : List ResultVar} (hl : fn.results = l.toArray) :
    (results fn tmps).run P w = ((l.mapM fun (r : ResultVar) => match r with | .tmp t => (pure (tmps.getD t undef) : Sem Value) | .cell b t => do loadVar t (← asAddr (tmps.getD b undef))).run P w).andThen fun vs w => .ok (if h : vs.toArray.size = 1 then vs.toArray[0] else .tuple vs.toArray) w := by
  unfold results
  rw [Array.mapM_eq_mapM_toList, hl]
  rw [Sem.run_bind, Sem.run_map]
  cases (List.mapM (fun (r : ResultVar) => match r with | .tmp t => (pure (tmps.getD t undef) : Sem Value) | .cell b t => do loadVar t (← asAddr (tmps.getD b undef))) l).run P w <;> rfl
theorem shRes_sound {P : Program} {fn : Func} {R : Value → World → Prop} {n : Nat} {ds : List Deferred} {e : Env} {a : Act} {w : World} (hr : Rep n ds e a) (h : shRes P fn R e w) :
    ∃ v, (results fn a.tmps).run P w = .ok v w ∧ R v w := by
  have g : ∀ {t v}, e.get? t = some v → a.tmps.getD t undef = v := fun {t v} h => by simp [hr.at_ t v h]
  have key : ∀ {l : List ResultVar}, fn.results.toList = l → fn.results = l.toArray := fun h => by rw [← h]
  unfold shRes at h
  split at h
  · rename_i t ht
    split at h
    · rename_i v hv; exact ⟨v, by simp [results, key ht, hr.at_ _ _ hv], h⟩
    · exact h.elim
  · rename_i t u ht
    split at h
    · rename_i v x hv hx; exact ⟨_, by simp [results, key ht, hr.at_ _ _ hv, hr.at_ _ _ hx], h⟩
    · exact h.elim
  · rename_i t u s ht
    split at h
    · rename_i v x y hv hx hy; exact ⟨_, by simp [results, key ht, hr.at_ _ _ hv, hr.at_ _ _ hx, hr.at_ _ _ hy], h⟩
    · exact h.elim
  · rename_i t u s r ht
    split at h
    · rename_i v x y z hv hx hy hz; exact ⟨_, by simp [results, key ht, hr.at_ _ _ hv, hr.at_ _ _ hx, hr.at_ _ _ hy, hr.at_ _ _ hz], h⟩
    · exact h.elim
  · rename_i ht
    exact ⟨_, by simp [results, key ht], h⟩
  · rename_i ad t ht
    split at h
    · rename_i p hp
      obtain ⟨v, C, hC, hrun, h⟩ := shLoad_sound (o := { dst := none, op := .load t (.const p), type := 0, pos := "", after := #[], guard := none }) (e := []) rfl (show shLoad P t (evd [] (.const p)) w _ from h)
      have h1 := hrun w hC
      refine ⟨v, ?_, h⟩
      cases p <;> simp [execOp, Instr.loadAt, Instr.sureAddr, evd, ev] at h1
      rename_i q
      cases q <;> simp at h1
      rename_i q
      cases hl : (loadVar t q).run P w <;> simp [hl] at h1
      obtain ⟨rfl, rfl⟩ := h1
      simp [results, key ht, hr.at_ _ _ hp, asAddr, hl]
    · exact h.elim
  · rename_i ad t u ht
    split at h
    · rename_i p x hp hx
      obtain ⟨v, C, hC, hrun, h⟩ := shLoad_sound (o := { dst := none, op := .load t (.const p), type := 0, pos := "", after := #[], guard := none }) (e := []) rfl (show shLoad P t (evd [] (.const p)) w _ from h)
      have h1 := hrun w hC
      refine ⟨_, ?_, h⟩
      cases p <;> simp [execOp, Instr.loadAt, Instr.sureAddr, evd, ev] at h1
      rename_i q
      cases q <;> simp at h1
      rename_i q
      cases hl : (loadVar t q).run P w <;> simp [hl] at h1
      obtain ⟨rfl, rfl⟩ := h1
      simp [results, key ht, hr.at_ _ _ hp, hr.at_ _ _ hx, asAddr, hl]
    · exact h.elim
  · rename_i r1 r2 rs ht
    obtain ⟨vs, h1, h2, h3⟩ := shResL_sound hr h
    refine ⟨_, ?_, h3⟩
    rw [run_results fn a.tmps (key ht), h1]
    simp only [Result.andThen_ok]
    have : vs.toArray.size ≠ 1 := by simp [h2]
    simp [h2]

theorem argsE_rep {fn : Func} {args : List Value} (hle : args.length ≤ fn.ntmps) : Rep fn.ntmps [] (argsE args 0) { tmps := args.toArray ++ Array.replicate (fn.ntmps - args.toArray.size) undef, defers := [] } := by
  refine ⟨by simp; omega, rfl, fun t v hv => ?_⟩
  obtain ⟨_, h2⟩ := argsE_get hv
  simp only [Nat.sub_zero] at h2
  have hlt : t < args.length := (List.getElem?_eq_some_iff.1 h2).1
  rw [Array.getElem?_append_left (by simpa using hlt)]
  simpa using h2
theorem shFX_sound {P : Program} {f : FuncId} {an : Ann} {args : List Value} {w : World} {R : Value → World → Prop} {pan : Pan} (h : shFX P f an args w R pan) : Calls P f args.toArray w (onRetX R pan.p) := by
  unfold shFX at h
  split at h
  · rename_i fn hf
    split at h
    · rename_i c hc
      split at h
      · rename_i hle
        have hle := Nat.le_of_ble_eq_true hle
        refine calls_of_wp hf hc ?_
        refine Code.wp_mono (fun ex a' w' hq => ?_) (shC_sound c _ _ _ w (fun ch e w h => h.elim) (argsE_rep hle) h)
        cases ex with
        | normal => obtain ⟨e', h1, h2, _⟩ := hq.keeps (fun c => by simp); obtain ⟨v, hv, hR⟩ := shRes_sound h2 h1; exact ⟨h2.defers, v, hv, hR⟩
        | ret => obtain ⟨e', h1, h2, _⟩ := hq.keeps (fun c => by simp); obtain ⟨v, hv, hR⟩ := shRes_sound h2 h1; exact ⟨h2.defers, v, hv, hR⟩
        | panic ch =>
          rcases hq with ⟨e', h1, _⟩ | ⟨c, h0, h1, h2, _⟩
          · exact h1.elim
          · cases h0; exact ⟨h2, h1⟩
        | _ => obtain ⟨e', h1, h2, _⟩ := hq.keeps (fun c => by simp); exact h1.elim
      · exact h.elim
    · exact h.elim
  · exact h.elim
theorem shF_sound {P : Program} {f : FuncId} {an : Ann} {args : List Value} {w : World} {R : Value → World → Prop} (h : shF P f an args w R) : Calls P f args.toArray w (onRet R) := shFX_sound h
/-- A function value, called. -/
theorem cvP_of {P : Program} {g : FuncId} {fs cs : Array Value} {args : List Value} {w : World} {K : Value → World → Prop} (hc : callable P g = true) (h : Calls P g (fs.toList ++ args ++ cs.toList).toArray w (onRet K)) : cvP P (.func (.func g) fs cs) args w K := by
  unfold cvP cvPX
  simp only [hc]
  exact h
/-- The way it is used: the formula is another's, by reckoning. -/
theorem calls_of {P : Program} {f : FuncId} (an : Ann) {args : List Value} {w : World} {R : Value → World → Prop} {X : Prop} (hX : X = shF P f an args w R) (h : X) : Calls P f args.toArray w (onRet R) :=
  shF_sound (hX ▸ h)

/-! ### 10b. A function that defers one call ahead of all else; a deferred function that recovers first -/
/-- A function value, called by 'defer' at the end. -/
def dfP (P : Program) (d : Value) (u : FrameMode) (w : World) (K : World → Prop) : Prop :=
  match d with
  | .func (.func g) fs cs => match callable P g with
    | true => CallsD P g (fs.toList ++ cs.toList).toArray u w fun en u' w' => match en with | .returned _ => settle u' = .returning ∧ K w' | _ => False
    | false => False
  | _ => False
def resT : ResultVar → Tmp
  | .tmp t => t
  | .cell t _ => t
def isFn : Value → Bool
  | .func (.func _) _ _ => true
  | _ => false
def endD (P : Program) (fn : Func) (d : Value) (R : Value → World → Prop) (e0 : Env) : Exit → Env → World → Prop
  | .normal, _, w => dfP P d .returning w (shRes P fn R e0)
  | .ret, _, w => dfP P d .returning w (shRes P fn R e0)
  | _, _, _ => False
def shD (P : Program) (ids : List Nat) (fn : Func) (n : Nat) (an : Ann) (R : Value → World → Prop) : Code → Env → World → Prop
  | .seq (.region _ ops false) c, e, w => match ops.toList.reverse with
    | o :: r => match o.op, o.guard, o.dst with
      | .defer { callee := .value f, args, .. }, none, none => match args.toList with
        | [] => shOps P nop n ops r.reverse (fun e w => match known o e && isFn (evd e f) && noneIn (fn.results.toList.map resT) (wr c) with
            | true => shC P ⟨ids, fun ch w => dfP P (evd e f) (.panicking ch) w (shRes P fn R e)⟩ n an c (endD P fn (evd e f) R e) e w
            | false => False) e w
        | _ => False
      | _, _, _ => shOps P nop n ops ops.toList (fun e w => shD P ids fn n an R c e w) e w
    | [] => False
  | _, _, _ => False
def shFD (P : Program) (ids : List Nat) (f : FuncId) (an : Ann) (args : List Value) (w : World) (R : Value → World → Prop) : Prop :=
  match P.funcs[f]? with
  | some fn => match fn.body with
    | some c => (match Nat.ble args.length fn.ntmps with | true => shD P ids fn fn.ntmps an R c (argsE args 0) w | false => False)
    | none => False
  | none => False
theorem dfP_spec {P : Program} {g : FuncId} {fs cs : Array Value} {u : FrameMode} {w : World} {K : World → Prop} (h : dfP P (.func (.func g) fs cs) u w K) :
    callable P g = true ∧ CallsD P g (fs ++ cs) u w fun en u' w' => match en with | .returned _ => settle u' = .returning ∧ K w' | _ => False := by
  simp only [dfP] at h
  split at h
  · rename_i hc
    have : (fs.toList ++ cs.toList).toArray = fs ++ cs := by rw [← Array.toList_inj]; simp
    rw [this] at h
    exact ⟨hc, h⟩
  · exact h.elim
theorem shOps_part {P : Program} {n : Nat} {ds : List Deferred} {ops : Array Oper} {Q : Exit → Act → World → Prop} {K : Env → World → Prop} {l2 : List Oper} : ∀ {l : List Oper} {e : Env} {a : Act} {w : World},
    Rep n ds e a → (∀ e' a' w', K e' w' → Rep n ds e' a' → wpList P ops Q l2 a' w') → shOps P nop n ops l K e w → wpList P ops Q (l ++ l2) a w
  | [], e, a, w, hr, hK, h => hK e a w h hr
  | o :: rest, e, a, w, hr, hK, h => by
    unfold shOps at h
    split at h
    · rename_i hp
      obtain ⟨e', hr', h⟩ := shGuard_sound hr h
      refine wpList_step (rest := rest ++ l2) fun Kc hKc => ?_
      rcases h with ⟨hw, h⟩ | ⟨hw, h⟩
      · rw [if_pos hw]
        exact shOp_sound hr' (fun c w' (hc : noP c w') => hc.elim) (fun v w' hv => hKc _ _ (shOps_part (hr'.put hp v) hK hv)) h
      · rw [if_neg (by simp [hw])]
        exact hKc _ _ (shOps_part (hr'.put hp undef) hK h)
    · exact h.elim
/-- The results, read again where nobody wrote their slots. -/
theorem shRes_later {P : Program} {fn : Func} {R : Value → World → Prop} {n : Nat} {ds : List Deferred} {e : Env} {a a' : Act} {ws : List Tmp} {w : World} (hr : Rep n ds e a) (hs : Same ws a a')
    (hn : noneIn (fn.results.toList.map resT) ws = true) (h : shRes P fn R e w) : ∃ v, (results fn a'.tmps).run P w = .ok v w ∧ R v w := by
  obtain ⟨v, h1, h2⟩ := shRes_sound hr h
  refine ⟨v, ?_, h2⟩
  rw [← h1]
  have key : ∀ r ∈ fn.results.toList, a'.tmps.getD (resT r) undef = a.tmps.getD (resT r) undef := fun r hr => by
    have hnot : resT r ∉ ws := fun hm => by
      have h1 := List.all_eq_true.1 hn (resT r) (List.mem_map_of_mem hr)
      simp only [Bool.not_eq_true', List.any_eq_false] at h1
      exact h1 _ hm (Nat.beq_refl _)
    have := hs _ hnot
    simp [Array.getD_eq_getD_getElem?, this]
  have hm : ∀ l : List ResultVar, (∀ r ∈ l, a'.tmps.getD (resT r) undef = a.tmps.getD (resT r) undef) →
      (l.mapM fun (r : ResultVar) => match r with | .tmp t => (pure (a'.tmps.getD t undef) : Sem Value) | .cell b t => do loadVar t (← asAddr (a'.tmps.getD b undef)))
      = (l.mapM fun (r : ResultVar) => match r with | .tmp t => (pure (a.tmps.getD t undef) : Sem Value) | .cell b t => do loadVar t (← asAddr (a.tmps.getD b undef))) := by
    intro l
    induction l with
    | nil => intro _; rfl
    | cons r l ih =>
      intro h
      have e1 := ih fun r hr => h r (List.mem_cons_of_mem _ hr)
      have e2 := h r (List.mem_cons_self ..)
      simp only [List.mapM_cons]
      rw [e1]
      cases r <;> simp only [resT] at e2 <;> simp only [e2]
  have he : results fn a'.tmps = results fn a.tmps := by
    unfold results
    rw [Array.mapM_eq_mapM_toList, Array.mapM_eq_mapM_toList]
    exact congrArg (fun z => (do let vs ← (List.toArray <$> z); pure (if h : vs.size = 1 then vs[0] else .tuple vs) : Sem Value)) (hm fn.results.toList key)
  rw [he]
theorem dfP_leaves {P : Program} {fn : Func} {R : Value → World → Prop} {n : Nat} {ds : List Deferred} {e : Env} {a a' : Act} {ws : List Tmp} {w : World} {g : FuncId} {fs cs : Array Value} {u : FrameMode} (hu : u ≠ .run) (hr : Rep n ds e a) (hs : Same ws a a')
    (hn : noneIn (fn.results.toList.map resT) ws = true) (h : dfP P (.func (.func g) fs cs) u w (shRes P fn R e)) : Leaves P fn a'.tmps (onRet R) [{ target := .fn (.func g) cs, args := fs }] u w := by
  obtain ⟨hc, h⟩ := dfP_spec h
  unfold callable at hc
  cases hfn : P.funcs[g]? with
  | none => simp [hfn] at hc
  | some fn' =>
    simp only [hfn, Bool.and_eq_true, Bool.not_eq_true'] at hc
    have h1 : ¬ fn'.name = "runtime.NumGoroutine" := by simpa using hc.1
    have h2 : ¬ fn'.body = none := by intro hb; rw [hb] at hc; simp at hc
    refine leaves_cons (f := g) (args := fs ++ cs) hu (by simp [invoke, callFunc, hfn, h1, h2]) (CallsD.mono h fun en u' w' hen => ?_)
    cases en with
    | returned v =>
      obtain ⟨h3, h4⟩ := hen
      obtain ⟨v, h5, h6⟩ := shRes_later hr hs hn h4
      show Leaves P fn a'.tmps (onRet R) [] (settle u') w'
      rw [h3]
      exact ⟨v, h5, h6⟩
    | _ => exact hen.elim
theorem shD_sound {P : Program} {ids : List Nat} {fn : Func} {n : Nat} {an : Ann} {R : Value → World → Prop} : ∀ (c : Code) (e : Env) (a : Act) (w : World), Rep n [] e a → shD P ids fn n an R c e w → c.wp P (bodyPostD P fn (onRet R)) a w := by
  intro c
  induction c with
  | seq x y ihx ihy =>
    intro e a w hr h
    cases x with
    | region id ops draw =>
      cases draw with
      | true => exact h.elim
      | false =>
        simp only [shD] at h
        split at h
        case h_2 => exact h.elim
        rename_i o r hrev
        split at h
        · rename_i f args ats hop hg hd
          split at h
          case h_2 => exact h.elim
          rename_i hargs
          have hargs' : args = #[] := by rw [← Array.toList_inj]; simpa using hargs
          subst hargs'
          have hops : ops.toList = r.reverse ++ [o] := by
            have := congrArg List.reverse hrev
            simpa using this
          refine wp_seq (wp_region_list ?_)
          rw [hops]
          refine shOps_part hr (fun e1 a1 w1 h1 hr1 => ?_) h
          split at h1
          case h_2 => exact h1.elim
          rename_i hb
          simp only [Bool.and_eq_true] at hb
          obtain ⟨⟨hk, hf⟩, hn⟩ := hb
          refine wpList_step fun Kc hKc => ?_
          rw [if_pos (by simp [Region.wanted, hg])]
          obtain ⟨g, fs, cs, hv⟩ : ∃ g fs cs, evd e1 f = .func (.func g) fs cs := by
            unfold isFn at hf
            split at hf
            · rename_i hx; exact ⟨_, _, _, hx⟩
            · cases hf
          rw [hv] at h1
          have hrun : (execOp (evd e1) o).run P w1 = .ok (.defer { target := .fn (.func g) cs, args := fs }) w1 := by
            simp [execOp, hop, resolve, Deferred.ofValue, hv]
          unfold Oper.wp
          rw [known_exec hr1 hk, hrun, Oper.upon_defer, hr1.defers, hd]
          refine hKc _ _ ?_
          show y.wp P (bodyPostD P fn (onRet R)) { a1 with defers := [{ target := .fn (.func g) cs, args := fs }] } w1
          have hr2 : Rep n [{ target := .fn (.func g) cs, args := fs }] e1 { a1 with defers := [{ target := .fn (.func g) cs, args := fs }] } := ⟨hr1.size, rfl, hr1.at_⟩
          refine Code.wp_mono (fun ex a' w' hq => ?_) (shC_sound y _ _ _ w1 (fun ch e w h => h.elim) hr2 h1)
          cases ex with
          | normal => obtain ⟨e', h1, h2, h3⟩ := hq.keeps (fun c => by simp); show Leaves _ _ _ _ _ _ _; rw [h2.defers]; exact dfP_leaves (by simp) hr1 h3 hn h1
          | ret => obtain ⟨e', h1, h2, h3⟩ := hq.keeps (fun c => by simp); show Leaves _ _ _ _ _ _ _; rw [h2.defers]; exact dfP_leaves (by simp) hr1 h3 hn h1
          | panic ch =>
            rcases hq with ⟨e', h1, _⟩ | ⟨c, h0, h1, h2, h3⟩
            · exact h1.elim
            · cases h0
              show Leaves _ _ _ _ _ _ _
              rw [h2]; exact dfP_leaves (by simp) hr1 h3 hn h1
          | _ => obtain ⟨e', h1, h2, _⟩ := hq.keeps (fun c => by simp); exact h1.elim
        · refine wp_seq (wp_region_list (shOps_sound hr (fun c a' w' (h1 : noP c w') _ _ => h1.elim) (fun e1 a1 w1 h1 h2 _ => ?_) h))
          exact ihy e1 a1 w1 h2 h1
    | _ => exact h.elim
  | _ => exact fun e a w hr h => by simp [shD] at h
theorem shFD_sound {P : Program} {ids : List Nat} {f : FuncId} {an : Ann} {args : List Value} {w : World} {R : Value → World → Prop} (h : shFD P ids f an args w R) : Calls P f args.toArray w (onRet R) := by
  unfold shFD at h
  split at h
  · rename_i fn hf
    split at h
    · rename_i c hc
      split at h
      · rename_i hle
        exact calls_of_wp_defers hf hc (shD_sound c _ _ w (argsE_rep (Nat.le_of_ble_eq_true hle)) h)
      · exact h.elim
    · exact h.elim
  · exact h.elim
theorem callsD_of {P : Program} {ids : List Nat} {f : FuncId} (an : Ann) {args : List Value} {w : World} {R : Value → World → Prop} {X : Prop} (hX : X = shFD P ids f an args w R) (h : X) : Calls P f args.toArray w (onRet R) :=
  shFD_sound (hX ▸ h)

def recov : FrameMode → Value × FrameMode
  | .panicking ({ v, recovered := false, goexit := false } :: older) => (v, .panicking ({ v, recovered := true } :: older))
  | u => (.nilIface, u)
def shFR (P : Program) (f : FuncId) (an : Ann) (args : List Value) (v : Value) (w : World) (R : Value → World → Prop) : Prop :=
  match P.funcs[f]? with
  | some fn => match fn.body with
    | some (.seq (.region _ ops false) c) => match ops.toList with
      | [o0, o1] => match o0.op, o0.guard, o0.dst, o1.op, o1.guard, o1.dst with
        | .call { callee := .builtin .recover, .. }, none, some t0, .assign (.tmp t), none, some t1 =>
          (match Nat.beq t t0 && Nat.ble args.length fn.ntmps && putOk fn.ntmps (some t0) && putOk fn.ntmps (some t1) with
          | true => shC P nop fn.ntmps an c (endK P fn R) ((t1, v) :: (t0, v) :: argsE args 0) w
          | false => False)
        | _, _, _, _, _, _ => False
      | _ => False
    | _ => False
  | none => False
theorem shFR_sound {P : Program} {f : FuncId} {an : Ann} {args : List Value} {u : FrameMode} {w : World} {R : Value → World → Prop} (h : shFR P f an args (recov u).1 w R) :
    CallsD P f args.toArray u w fun en u' w' => u' = (recov u).2 ∧ onRet R en w' := by
  unfold shFR at h
  split at h
  case h_2 => exact h.elim
  rename_i fn hf
  split at h
  case h_2 => exact h.elim
  rename_i id ops c hc
  split at h
  case h_2 => exact h.elim
  rename_i o0 o1 hops
  split at h
  case h_2 => exact h.elim
  rename_i args0 ats t0 t t1 h0 hg0 hd0 h1 hg1 hd1
  split at h
  case h_2 => exact h.elim
  rename_i hb
  simp only [Bool.and_eq_true] at hb
  obtain ⟨⟨⟨hb1, hb2⟩, hb3⟩, hb4⟩ := hb
  obtain rfl := Nat.eq_of_beq_eq_true hb1
  have hops' : ops = #[o0, o1] := by rw [← Array.toList_inj]; simpa using hops
  subst hops'
  refine callsD_of_wpS hf hc fun c0 cs hu => ?_
  have hr := argsE_rep (fn := fn) (args := args) (Nat.le_of_ble_eq_true hb2)
  generalize hact : ({ tmps := args.toArray ++ Array.replicate (fn.ntmps - args.toArray.size) undef, defers := [] } : Act) = a at *
  refine wpS_seq (wpS_region ?_)
  have key : ∀ (v : Value) (u' : FrameMode), shC P nop fn.ntmps an c (endK P fn R) ((t1, v) :: (t, v) :: argsE args 0) w →
      Code.wpS P c (bodyPostS P fn c0 cs fun en u2 w' => u2 = u' ∧ onRet R en w') ((a.put (some t) v).put (some t1) v) ({ c0 with mode := u' } :: cs) w := fun v u' h => by
    have hr2 : Rep fn.ntmps [] ((t1, v) :: (t, v) :: argsE args 0) ((a.put (some t) v).put (some t1) v) := (hr.put hb3 v).put hb4 v
    refine wpS_of_wp (Code.wp_mono (fun ex a' w' hq => ?_) (shC_sound c _ _ _ w (fun ch e w h => h.elim) hr2 h))
    cases ex with
    | normal => obtain ⟨e', h1, h2, _⟩ := hq.keeps (fun c => by simp); obtain ⟨v, hv, hR⟩ := shRes_sound h2 h1; exact ⟨h2.defers, u', rfl, v, hv, rfl, hR⟩
    | ret => obtain ⟨e', h1, h2, _⟩ := hq.keeps (fun c => by simp); obtain ⟨v, hv, hR⟩ := shRes_sound h2 h1; exact ⟨h2.defers, u', rfl, v, hv, rfl, hR⟩
    | panic ch =>
      rcases hq with ⟨e', h1, _⟩ | ⟨c, h0, h1, _⟩
      · exact h1.elim
      · exact h1.elim
    | _ => obtain ⟨e', h1, h2, _⟩ := hq.keeps (fun c => by simp); exact h1.elim
  have hrun0 : (execOp a.eval o0).run P w = .ok .recover w := by
    simp [execOp, h0, resolve, invoke, builtin]
  have hw0 : Region.wanted o0 (yielded #[o0, o1] a.tmps) = true := by simp [Region.wanted, hg0]
  have hs : t < a.tmps.size := by rw [hr.size]; simpa [putOk] using hb3
  have fin : ∀ (v : Value) (cs' : List Frame), (Code.wpS P c (bodyPostS P fn c0 cs fun en u2 w' => u2 = (recov u).2 ∧ onRet R en w') ((a.put (some t) v).put (some t1) v) cs' w) →
      wpOpsS P #[o0, o1] (Exit.thenS (Code.wpS P c (bodyPostS P fn c0 cs fun en u2 w' => u2 = (recov u).2 ∧ onRet R en w')) (bodyPostS P fn c0 cs fun en u2 w' => u2 = (recov u).2 ∧ onRet R en w')) [1] (a.put o0.dst v) cs' w := fun v cs' hv => by
    have hw1 : Region.wanted o1 (yielded #[o0, o1] (a.put o0.dst v).tmps) = true := by simp [Region.wanted, hg1]
    have hrun1 : (execOp (a.put o0.dst v).eval o1).run P w = .ok (.value v) w := by
      simp [execOp, h1, hd0, Act.put, Act.eval, hs]
    simp only [wpOpsS]
    simp only [show (#[o0, o1] : Array Oper)[1]? = some o1 from rfl, hw1, if_true, hrun1, Oper.upon_value]
    rw [hd0, hd1]
    exact hv
  show wpOpsS P #[o0, o1] _ [0, 1] a (c0 :: cs) w
  unfold wpOpsS
  simp only [show (#[o0, o1] : Array Oper)[0]? = some o0 from rfl, hw0, if_true, hrun0]
  subst hu
  by_cases hx : ∃ v older, c0.mode = .panicking ({ v, recovered := false, goexit := false } :: older)
  · obtain ⟨v, older, hm⟩ := hx
    have hrc : recov c0.mode = (v, .panicking ({ v, recovered := true } :: older)) := by rw [hm]; rfl
    have hrd : recoverD (c0 :: cs) = some (v, { c0 with mode := .panicking ({ v, recovered := true } :: older) } :: cs) := by
      simp only [recoverD, hm]
    rw [hrc] at h fin ⊢
    rw [hrd]
    exact fin _ _ (key _ _ h)
  · have hrc : recov c0.mode = (.nilIface, c0.mode) := by
      unfold recov
      split
      · rename_i v older hm; exact absurd ⟨v, older, hm⟩ hx
      · rfl
    have hrd : recoverD (c0 :: cs) = none := by
      unfold recoverD
      split
      · rename_i cr rest heq
        cases heq
        split
        · rename_i v older hm; exact absurd ⟨v, older, hm⟩ hx
        · rfl
      · rfl
    rw [hrc] at h fin ⊢
    rw [hrd]
    exact fin _ _ (key _ _ h)
theorem callsR_of {P : Program} {f : FuncId} (an : Ann) {args : List Value} {u : FrameMode} {w : World} {R : Value → World → Prop} {X : Prop} (hX : X = shFR P f an args (recov u).1 w R) (h : X) :
    CallsD P f args.toArray u w fun en u' w' => u' = (recov u).2 ∧ onRet R en w' := shFR_sound (hX ▸ h)
theorem dfP_of {P : Program} {g : FuncId} {fs cs : Array Value} {u : FrameMode} {w : World} {K : World → Prop} {R : Value → World → Prop} (hc : callable P g = true) (hu : settle (recov u).2 = .returning)
    (h : CallsD P g (fs.toList ++ cs.toList).toArray u w fun en u' w' => u' = (recov u).2 ∧ onRet R en w') (hR : ∀ v w', R v w' → K w') : dfP P (.func (.func g) fs cs) u w K := by
  simp only [dfP, hc]
  refine CallsD.mono h fun en u' w' hen => ?_
  obtain ⟨rfl, hen⟩ := hen
  cases en with
  | returned v => exact ⟨hu, hR _ _ hen⟩
  | _ => exact hen.elim

/-! ### 11. Words of the printed texts -/
def bAnd (k : IntKind) (x y : Int) : Int := k.wrap ((BitVec.ofInt k.bits x &&& BitVec.ofInt k.bits y).toNat)
def bOr (k : IntKind) (x y : Int) : Int := k.wrap ((BitVec.ofInt k.bits x ||| BitVec.ofInt k.bits y).toNat)
def bXor (k : IntKind) (x y : Int) : Int := k.wrap ((BitVec.ofInt k.bits x ^^^ BitVec.ofInt k.bits y).toNat)
def bAndNot (k : IntKind) (x y : Int) : Int := k.wrap ((BitVec.ofInt k.bits x &&& ~~~(BitVec.ofInt k.bits y)).toNat)
theorem callsX_of {P : Program} {f : FuncId} (an : Ann) {args : List Value} {w : World} {R : Value → World → Prop} {pan : Pan} {X : Prop} (hX : X = shFX P f an args w R pan) (h : X) : Calls P f args.toArray w (onRetX R pan.p) :=
  shFX_sound (hX ▸ h)
theorem onRetX_mono {R R' : Value → World → Prop} {pan : List PanicEntry → World → Prop} (h : ∀ v w, R v w → R' v w) : ∀ e w, onRetX R pan e w → onRetX R' pan e w := fun e w => by
  cases e <;> first | exact h _ _ | exact id
theorem onRet_mono {R R' : Value → World → Prop} (h : ∀ v w, R v w → R' v w) : ∀ e w, onRet R e w → onRet R' e w := fun e w => by
  cases e <;> first | exact h _ _ | exact id
def TupK : List Kd → Type
  | [] => Unit
  | k :: l => KT k × TupK l
def valsK : (l : List Kd) → TupK l → List Value
  | [], _ => []
  | k :: l, s => KT.v k s.1 :: valsK l s.2
def decVs : (l : List Kd) → List Value → (TupK l → Prop) → Prop
  | [], vs, K => match vs with | [] => K () | _ => False
  | k :: l, vs, K => match vs with | v :: vs => decV k v fun x => decVs l vs fun r => K (x, r) | [] => False
theorem decVs_spec : ∀ {l : List Kd} {vs : List Value} {K : TupK l → Prop}, decVs l vs K → ∃ s, vs = valsK l s ∧ K s
  | [], [], K, h => ⟨(), rfl, h⟩
  | [], _ :: _, K, h => h.elim
  | k :: l, [], K, h => h.elim
  | k :: l, v :: vs, K, h => by
    obtain ⟨x, h1, h2⟩ := decV_spec h
    obtain ⟨s, h3, h4⟩ := decVs_spec h2
    exact ⟨(x, s), by simp [valsK, ← h1, ← h3], h4⟩
def decA (l : List Kd) (v : Value) (K : TupK l → Prop) : Prop := match v with | .agg cs => decVs l cs.toList K | _ => False
theorem decA_spec {l : List Kd} {v : Value} {K : TupK l → Prop} (h : decA l v K) : ∃ s, v = .agg (valsK l s).toArray ∧ K s := by
  cases v <;> simp only [decA] at h
  obtain ⟨s, h1, h2⟩ := decVs_spec h
  exact ⟨s, by rw [← h1], h2⟩
def flatK : List (Bool × List Kd) → List Kd
  | [] => []
  | p :: l => p.2 ++ flatK l
def splitV : List (Bool × List Kd) → List Value → (List Value → Prop) → Prop
  | [], vs, K => match vs with | [] => K [] | _ => False
  | (true, _) :: l, vs, K => match vs with | .agg cs :: vs => splitV l vs fun r => K (cs.toList ++ r) | _ => False
  | (false, _) :: l, vs, K => match vs with | v :: vs => splitV l vs fun r => K (v :: r) | _ => False
def joinV : List (Bool × List Kd) → List Value → List Value
  | [], _ => []
  | (true, ks) :: l, vs => .agg (vs.take ks.length).toArray :: joinV l (vs.drop ks.length)
  | (false, _) :: l, vs => match vs with | v :: vs => v :: joinV l vs | [] => []
/-- A tuple's components, each typed, one behind the other. -/
def decTs : (l : List (Bool × List Kd)) → List Value → (TupK (flatK l) → Prop) → Prop
  | [], vs, K => match vs with | [] => K () | _ => False
  | (true, ks) :: l, vs, K => match vs with
    | .agg cs :: vs => decVs ks cs.toList fun s => decTs l vs fun r => K (appT ks s r)
    | _ => False
  | (false, ks) :: l, vs, K => match vs with
    | v :: vs => decVs ks [v] fun s => decTs l vs fun r => K (appT ks s r)
    | _ => False
where appT : (ks : List Kd) → {m : List Kd} → TupK ks → TupK m → TupK (ks ++ m)
  | [], _, _, r => r
  | _ :: ks, _, s, r => (s.1, appT ks s.2 r)
theorem valsK_app : ∀ (ks : List Kd) {m : List Kd} (s : TupK ks) (r : TupK m), valsK (ks ++ m) (decTs.appT ks s r) = valsK ks s ++ valsK m r
  | [], _, _, _ => rfl
  | _ :: ks, _, s, r => by simp [decTs.appT, valsK, valsK_app ks s.2 r]
theorem valsK_length : ∀ (ks : List Kd) (s : TupK ks), (valsK ks s).length = ks.length
  | [], _ => rfl
  | _ :: ks, s => by simp [valsK, valsK_length ks s.2]
theorem decTs_spec : ∀ {l : List (Bool × List Kd)} {vs : List Value} {K : TupK (flatK l) → Prop}, decTs l vs K → ∃ s, vs = joinV l (valsK (flatK l) s) ∧ K s
  | [], [], K, h => ⟨(), rfl, h⟩
  | [], _ :: _, K, h => h.elim
  | (true, ks) :: l, vs, K, h => by
    cases vs with
    | nil => exact h.elim
    | cons v vs =>
      cases v <;> simp only [decTs] at h
      obtain ⟨s, h1, h2⟩ := decVs_spec h
      obtain ⟨r, h3, h4⟩ := decTs_spec h2
      refine ⟨_, ?_, h4⟩
      have hl := valsK_length ks s
      show _ = joinV ((true, ks) :: l) (valsK (ks ++ flatK l) (decTs.appT ks s r))
      simp only [joinV, valsK_app]
      rw [List.take_left' hl, List.drop_left' hl, ← h1, ← h3]
  | (false, ks) :: l, vs, K, h => by
    cases vs with
    | nil => exact h.elim
    | cons v vs =>
      simp only [decTs] at h
      obtain ⟨s, h1, h2⟩ := decVs_spec h
      obtain ⟨r, h3, h4⟩ := decTs_spec h2
      refine ⟨_, ?_, h4⟩
      show _ = joinV ((false, ks) :: l) (valsK (ks ++ flatK l) (decTs.appT ks s r))
      simp only [joinV, valsK_app, ← h1, List.singleton_append, ← h3]
def decT (l : List (Bool × List Kd)) (v : Value) (K : TupK (flatK l) → Prop) : Prop := match v with | .tuple vs => decTs l vs.toList K | _ => False
theorem decT_spec {l : List (Bool × List Kd)} {v : Value} {K : TupK (flatK l) → Prop} (h : decT l v K) : ∃ s, v = .tuple (joinV l (valsK (flatK l) s)).toArray ∧ K s := by
  cases v <;> simp only [decT] at h
  obtain ⟨s, h1, h2⟩ := decTs_spec h
  exact ⟨s, by rw [← h1], h2⟩
def decU (v : Value) (K : Prop) : Prop := match v with | .tuple vs => (match vs.toList with | [] => K | _ => False) | _ => False
theorem decU_spec {v : Value} {K : Prop} (h : decU v K) : v = .tuple #[] ∧ K := by
  cases v <;> simp only [decU] at h
  rename_i vs
  cases hv : vs.toList with
  | nil => rw [hv] at h; exact ⟨by rw [show vs = #[] from by rw [← Array.toList_inj]; simpa using hv], h⟩
  | cons x xs => rw [hv] at h; exact h.elim
end Go.Sh
