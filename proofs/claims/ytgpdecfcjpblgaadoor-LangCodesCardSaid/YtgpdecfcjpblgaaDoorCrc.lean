/- Crc: the plain law of the check sum: half a byte at a time by a table is bit by bit; what a burst of at most 32 bits does. No Go in it. -/
import Derived.Test.YtgpdecfcjpblgaaDoorSh
set_option linter.unusedSimpArgs false
set_option linter.unusedVariables false
namespace Go.Crc
def poly : BitVec 32 := 3988292384#32
/-- One step of the register. -/
def st (x : BitVec 32) : BitVec 32 := if x.getLsbD 0 then (x >>> 1) ^^^ poly else x >>> 1
def tab : List (BitVec 32) := [0x00000000, 0x1db71064, 0x3b6e20c8, 0x26d930ac, 0x76dc4190, 0x6b6b51f4, 0x4db26158, 0x5005713c,
  0xedb88320, 0xf00f9344, 0xd6d6a3e8, 0xcb61b38c, 0x9b64c2b0, 0x86d3d2d4, 0xa00ae278, 0xbdbdf21c]
def T (i : Nat) : BitVec 32 := tab.getD i 0
theorem xor_xor_cancel (a b c : BitVec 32) : (a ^^^ c) ^^^ (b ^^^ c) = a ^^^ b := by
  ext i; simp only [BitVec.getElem_xor]; cases a[i] <;> cases b[i] <;> cases c[i] <;> rfl
theorem xor_swap (a b c d : BitVec 32) : (a ^^^ b) ^^^ (c ^^^ d) = (a ^^^ c) ^^^ (b ^^^ d) := by
  ext i; simp only [BitVec.getElem_xor]; cases a[i] <;> cases b[i] <;> cases c[i] <;> cases d[i] <;> rfl
theorem shr_xor (a b : BitVec 32) (n : Nat) : (a ^^^ b) >>> n = (a >>> n) ^^^ (b >>> n) := by
  ext i; simp
theorem st_xor (a b : BitVec 32) : st (a ^^^ b) = st a ^^^ st b := by
  unfold st
  rw [BitVec.getLsbD_xor, shr_xor]
  cases a.getLsbD 0 <;> cases b.getLsbD 0 <;> simp
  · rw [BitVec.xor_assoc]
  · rw [BitVec.xor_assoc, BitVec.xor_comm (b >>> 1) poly, ← BitVec.xor_assoc]
  · exact (xor_xor_cancel _ _ _).symm
def stN : Nat → BitVec 32 → BitVec 32
  | 0, x => x
  | n + 1, x => stN n (st x)
theorem stN_xor (n : Nat) : ∀ a b, stN n (a ^^^ b) = stN n a ^^^ stN n b := by
  induction n with
  | zero => intro a b; rfl
  | succ n ih => intro a b; simp only [stN, st_xor, ih]
theorem stN_add (m n : Nat) : ∀ x, stN (m + n) x = stN n (stN m x) := by
  induction m with
  | zero => intro x; simp [stN]
  | succ m ih => intro x; rw [show m + 1 + n = (m + n) + 1 by omega]; simp only [stN, ih]
theorem st_zero : st 0#32 = 0#32 := by decide
theorem stN_zero (n : Nat) : stN n 0#32 = 0#32 := by
  induction n with
  | zero => rfl
  | succ n ih => simp only [stN, st_zero, ih]
/-- The register's step loses nothing. -/
theorem st_eq_zero {x : BitVec 32} (h : st x = 0#32) : x = 0#32 := by
  unfold st at h
  have top : ∀ y : BitVec 32, (y >>> 1).getLsbD 31 = false := fun y => by simp
  split at h
  · have h1 := congrArg (fun v => BitVec.getLsbD v 31) h
    simp only [BitVec.getLsbD_xor, top] at h1
    exact absurd h1 (by decide)
  · rename_i h0
    apply BitVec.eq_of_getLsbD_eq
    intro i hi
    rcases Nat.eq_zero_or_pos i with rfl | hp
    · simpa using h0
    · have h1 := congrArg (fun v => BitVec.getLsbD v (i - 1)) h
      simp only [BitVec.getLsbD_ushiftRight, BitVec.getLsbD_zero] at h1
      rw [show 1 + (i - 1) = i by omega] at h1
      simpa using h1
theorem st_ne_zero {x : BitVec 32} (h : x ≠ 0#32) : st x ≠ 0#32 := fun hs => h (st_eq_zero hs)
theorem stN_ne_zero (n : Nat) : ∀ {x : BitVec 32}, x ≠ 0#32 → stN n x ≠ 0#32 := by
  induction n with
  | zero => intro x h; exact h
  | succ n ih => intro x h; exact ih (st_ne_zero h)
/-- Half a byte by the table. -/
def nib (s : BitVec 32) : BitVec 32 := (s >>> 4) ^^^ T (s &&& 15#32).toNat
theorem st_even (x : BitVec 32) (h : x.getLsbD 0 = false) : st x = x >>> 1 := by simp only [st, h, Bool.false_eq_true, if_false]
theorem stN4_low : ∀ i : Fin 16, stN 4 (BitVec.ofNat 32 i.val) = T i.val := by decide
theorem stN4_high (x : BitVec 32) (h : ∀ i, i < 4 → x.getLsbD i = false) : stN 4 x = x >>> 4 := by
  have e : ∀ k, k < 4 → (x >>> k).getLsbD 0 = false := fun k hk => by simp [h k hk]
  simp only [stN]
  rw [st_even x (by simpa using h 0 (by omega)), st_even _ (e 1 (by omega)), ← BitVec.shiftRight_add, st_even _ (e 2 (by omega)), ← BitVec.shiftRight_add, st_even _ (e 3 (by omega)), ← BitVec.shiftRight_add]
theorem split16 (s : BitVec 32) : s = ((s >>> 4) <<< 4) ^^^ (s &&& 15#32) := by
  apply BitVec.eq_of_getLsbD_eq
  intro i hi
  simp only [BitVec.getLsbD_xor, BitVec.getLsbD_shiftLeft, BitVec.getLsbD_ushiftRight, BitVec.getLsbD_and]
  rcases Nat.lt_or_ge i 4 with h | h
  · have : (15#32).getLsbD i = true := by
      obtain rfl | rfl | rfl | rfl : i = 0 ∨ i = 1 ∨ i = 2 ∨ i = 3 := by omega
      all_goals decide
    simp [this, h, hi]
  · have : (15#32).getLsbD i = false := by
      have : ∀ j : Fin 32, 4 ≤ j.val → (15#32).getLsbD j.val = false := by decide
      exact this ⟨i, hi⟩ h
    rw [this]
    simp only [hi, decide_true, Bool.true_and, show decide (i < 4) = false by simp; omega, show 4 + (i - 4) = i by omega, Bool.not_false, Bool.and_false, Bool.xor_false]
theorem and15_lt (s : BitVec 32) : (s &&& 15#32).toNat < 16 := by
  rw [BitVec.toNat_and]
  exact Nat.lt_of_le_of_lt Nat.and_le_right (by decide)
theorem nib_eq (s : BitVec 32) : nib s = stN 4 s := by
  conv => rhs; rw [split16 s]
  rw [stN_xor, stN4_high _ (fun i hi => by simp [hi])]
  unfold nib
  have hlt := and15_lt s
  have h1 := stN4_low ⟨(s &&& 15#32).toNat, hlt⟩
  simp only [BitVec.ofNat_toNat, BitVec.setWidth_eq] at h1
  rw [h1]
  congr 1
  apply BitVec.eq_of_getLsbD_eq
  intro i hi
  simp only [BitVec.getLsbD_ushiftRight, BitVec.getLsbD_shiftLeft]
  simp [show ¬ (4 + i < 4) by omega]
  intro h
  exact (Nat.lt_or_ge (4 + i) 32).elim id (fun hge => by rw [BitVec.getLsbD_of_ge _ _ hge] at h; cases h)
def w8 (b : UInt8) : BitVec 32 := BitVec.ofNat 32 b.toNat
/-- A byte, half by half. -/
def fastByte (s : BitVec 32) (b : UInt8) : BitVec 32 := nib (nib (s ^^^ w8 b))
theorem fastByte_eq (s : BitVec 32) (b : UInt8) : fastByte s b = stN 8 (s ^^^ w8 b) := by
  unfold fastByte
  rw [nib_eq, nib_eq, ← stN_add]
/-- One bit comes in. -/
def inBit (s : BitVec 32) (t : Bool) : BitVec 32 := if t != s.getLsbD 0 then (s >>> 1) ^^^ poly else s >>> 1
def bit1 (t : Bool) : BitVec 32 := if t then 1#32 else 0#32
theorem inBit_eq (s : BitVec 32) (t : Bool) : inBit s t = st (s ^^^ bit1 t) := by
  unfold inBit st bit1
  rw [BitVec.getLsbD_xor]
  have h0 : (1#32).getLsbD 0 = true := by decide
  have hs : (s ^^^ 1#32) >>> 1 = s >>> 1 := by rw [shr_xor, show (1#32) >>> 1 = 0#32 by decide]; simp
  cases t <;> cases s.getLsbD 0 <;> simp [h0, hs]
def bits (l : List Bool) (s : BitVec 32) : BitVec 32 := l.foldl inBit s
theorem bits_append (a b : List Bool) (s : BitVec 32) : bits (a ++ b) s = bits b (bits a s) := by simp [bits]
/-- What bits do to two registers' difference. -/
theorem bits_xor (l : List Bool) : ∀ s t, bits l s ^^^ bits l t = stN l.length (s ^^^ t) := by
  induction l with
  | nil => intro s t; rfl
  | cons b l ih =>
    intro s t
    show bits l (inBit s b) ^^^ bits l (inBit t b) = stN (l.length + 1) (s ^^^ t)
    rw [ih, inBit_eq, inBit_eq, ← st_xor, xor_xor_cancel]
    rfl
/-- The word of some bits, the first the lowest. -/
def word : List Bool → BitVec 32
  | [] => 0#32
  | b :: l => bit1 b ^^^ (word l <<< 1)
theorem word_shr (b : Bool) (l : List Bool) (h : l.length < 32) (hw : ∀ i, l.length ≤ i → (word l).getLsbD i = false) : st (word (b :: l)) = st (bit1 b) ^^^ word l := by
  show st (bit1 b ^^^ (word l <<< 1)) = _
  rw [st_xor, st_even (word l <<< 1) (by simp)]
  congr 1
  apply BitVec.eq_of_getLsbD_eq
  intro i hi
  simp only [BitVec.getLsbD_ushiftRight, BitVec.getLsbD_shiftLeft]
  rcases Nat.lt_or_ge (1 + i) 32 with h1 | h1
  · simp [h1]
  · rw [hw i (by omega)]; simp [show ¬ (1 + i < 32) by omega]
theorem bit1_high (b : Bool) {i : Nat} (h : 0 < i) : (bit1 b).getLsbD i = false := by
  unfold bit1
  cases b
  · simp
  · simp; omega
theorem word_high : ∀ (l : List Bool) (i : Nat), l.length ≤ i → (word l).getLsbD i = false
  | [], i, _ => by simp [word]
  | b :: l, i, h => by
    simp only [List.length_cons] at h
    simp only [word, BitVec.getLsbD_xor, BitVec.getLsbD_shiftLeft, bit1_high b (by omega : 0 < i)]
    simp [word_high l (i - 1) (by omega)]
/-- At most 32 bits into a register: as if their word lay in it ahead. -/
theorem bits_word : ∀ (l : List Bool) (s : BitVec 32), l.length ≤ 32 → bits l s = stN l.length (s ^^^ word l)
  | [], s, _ => by simp [bits, stN, word]
  | b :: l, s, h => by
    simp only [List.length_cons] at h
    show bits l (inBit s b) = stN (l.length + 1) (s ^^^ word (b :: l))
    rw [bits_word l _ (by omega), inBit_eq]
    show _ = stN l.length (st (s ^^^ word (b :: l)))
    rw [st_xor, st_xor, word_shr b l (by omega) (word_high l), BitVec.xor_assoc]
theorem bit1_inj : ∀ a b : Bool, bit1 a = bit1 b → a = b := by decide
theorem word_inj : ∀ (a b : List Bool), a.length = b.length → a.length ≤ 32 → word a = word b → a = b
  | [], [], _, _, _ => rfl
  | [], _ :: _, h, _, _ => by simp at h
  | _ :: _, [], h, _, _ => by simp at h
  | x :: a, y :: b, h, hl, hw => by
    simp only [List.length_cons] at h hl
    have g : ∀ i, (word (x :: a)).getLsbD i = (word (y :: b)).getLsbD i := fun i => by rw [hw]
    have h0 : x = y := by
      have := g 0
      simp only [word, BitVec.getLsbD_xor, BitVec.getLsbD_shiftLeft] at this
      simp at this
      cases x <;> cases y <;> simp [bit1] at this <;> rfl
    have h1 : word a = word b := by
      apply BitVec.eq_of_getLsbD_eq
      intro i hi
      rcases Nat.lt_or_ge (i + 1) 32 with hlt | hge
      · have := g (i + 1)
        simp only [word, BitVec.getLsbD_xor, BitVec.getLsbD_shiftLeft, bit1_high x (by omega : 0 < i + 1), bit1_high y (by omega : 0 < i + 1)] at this
        simpa [hlt] using this
      · rw [word_high a i (by omega), word_high b i (by omega)]
    rw [h0, word_inj a b (by omega) (by omega) h1]
theorem xor_eq_zero {a b : BitVec 32} (h : a ^^^ b = 0#32) : a = b := by
  have : (a ^^^ b) ^^^ b = b := by rw [h]; simp
  rwa [BitVec.xor_assoc, BitVec.xor_self, BitVec.xor_zero] at this
/-- Two rows of bits that differ within 32 places, and nowhere else, come to different registers. -/
theorem burst (p a b q : List Bool) (s : BitVec 32) (h : a.length = b.length) (hl : a.length ≤ 32) (hne : a ≠ b) : bits (p ++ (a ++ q)) s ≠ bits (p ++ (b ++ q)) s := by
  intro he
  simp only [bits_append] at he
  have h1 : stN q.length (bits a (bits p s) ^^^ bits b (bits p s)) = 0#32 := by rw [← bits_xor, he, BitVec.xor_self]
  rw [bits_word a _ hl, bits_word b _ (by omega), h, ← stN_xor, BitVec.xor_comm (bits p s) (word a), BitVec.xor_comm (bits p s) (word b), xor_xor_cancel] at h1
  have h2 : word a ^^^ word b ≠ 0#32 := fun hz => hne (word_inj a b h hl (xor_eq_zero hz))
  exact stN_ne_zero _ (stN_ne_zero _ h2) h1
/-! ### Bytes -/
def bitsOf (b : UInt8) : List Bool := (List.range 8).map fun k => b.toNat.testBit k
def allBits (bs : List UInt8) : List Bool := bs.flatMap bitsOf
theorem bits_byte (b : UInt8) (s : BitVec 32) : bits (bitsOf b) s = fastByte s b := by
  rw [bits_word _ _ (by simp [bitsOf]), fastByte_eq]
  have hw : word (bitsOf b) = w8 b := by
    have : ∀ n : Fin 256, word ((List.range 8).map fun k => n.val.testBit k) = BitVec.ofNat 32 n.val := by decide +kernel
    exact this ⟨b.toNat, b.toNat_lt⟩
  rw [hw]
  simp [bitsOf]
def run (bs : List UInt8) (s : BitVec 32) : BitVec 32 := bs.foldl fastByte s
theorem run_bits (bs : List UInt8) : ∀ s, run bs s = bits (allBits bs) s := by
  induction bs with
  | nil => intro s; rfl
  | cons b bs ih =>
    intro s
    show run bs (fastByte s b) = bits (bitsOf b ++ allBits bs) s
    rw [ih, bits_append, bits_byte]
def crc (bs : List UInt8) : BitVec 32 := 4294967295#32 ^^^ run bs 4294967295#32
/-- The sums differ where the bits differ within 32 places. -/
theorem crc_burst {x y : List UInt8} {p a b q : List Bool} (hx : allBits x = p ++ (a ++ q)) (hy : allBits y = p ++ (b ++ q)) (h : a.length = b.length) (hl : a.length ≤ 32) (hne : a ≠ b) : crc x ≠ crc y := by
  intro he
  unfold crc at he
  have := congrArg (4294967295#32 ^^^ ·) he
  simp only [← BitVec.xor_assoc, BitVec.xor_self, BitVec.zero_xor] at this
  rw [run_bits, run_bits, hx, hy] at this
  exact burst p a b q _ h hl hne this
end Go.Crc
