/- VArith: the law VmArith. -/
import Derived.Test.YtlkgnfpjmafdkaaVmC
set_option linter.unusedVariables false
set_option linter.unusedSimpArgs false
namespace Go.Pl
open Go Go.Sh Go.RowKit
/-- A block of n cells whose first cells are these. -/
def PreN (n : Nat) (w : World) (b : Nat) (t : TypeId) (f : Nat → Value) (i : Nat) : Prop := ∃ cur : Array Value, Blk w b cur t ∧ cur.size = n ∧ ∀ j, j < i → cur[j]? = some (f j)
theorem stNn {n : Nat} {w : World} {b : Nat} {t : TypeId} {f : Nat → Value} {i : Nat} {v : Value} {K : World → Prop} (h : PreN n w b t f i) (hi : i < n) (hv : v = f i) (hK : ∀ w', Ch [some b] w w' → PreN n w' b t f (i + 1) → w'.heap.size = w.heap.size → K w') : stP ((⟨b, 0, none⟩ : Addr).add i) v w K := by
  obtain ⟨cur, hb, hs, hp⟩ := h
  refine stB hb (by omega) fun w' hc hb' hz => hK w' hc ⟨_, hb', by simpa using hs, fun j hj => ?_⟩ hz
  rw [Array.getElem?_setIfInBounds]
  split
  · rename_i e
    subst e
    rw [if_pos (by omega), hv]
  · exact hp j (by omega)
end Go.Pl
namespace Go.Proofs.Ytlkgnfpjmafdkaa
open Go Go.Sh Go.Pl Go.RowKit Go.Lang Go.Vm Go.Gt
def arE (op : Nat) (x y : Int) : En := ⟨0, 0, 0, 0, [(1, x), (1, y), ((op : Int), 0), (35, 0)], [], []⟩
theorem isTwo_ops {op : Nat} (h2 : isTwo op) : op = 10 ∨ op = 11 ∨ op = 12 ∨ op = 13 ∨ op = 14 ∨ op = 15 ∨ op = 16 ∨ op = 17 ∨ op = 18 ∨ op = 19 ∨ op = 22 ∨ op = 23 ∨ op = 24 ∨ op = 25 ∨ op = 26 ∨ op = 27 ∨ op = 28 ∨ op = 29 := by unfold isTwo at h2; omega
theorem ar_new {op : Nat} {x y : Int} (h2 : isTwo op) : newE (arE op x y) = 0 := by
  rcases isTwo_ops h2 with rfl | rfl | rfl | rfl | rfl | rfl | rfl | rfl | rfl | rfl | rfl | rfl | rfl | rfl | rfl | rfl | rfl | rfl <;> kernel_rfl
def arM (op : Nat) (x y : Int) : Mc := if (two op x y).2 ≠ 0 then ⟨[], [], [], [], 2, 3, true, (two op x y).2, 0⟩ else ⟨[(two op x y).1], [], [], [], 3, 3, false, 0, 0⟩
theorem ar_3 {op : Nat} {x y : Int} (h2 : isTwo op) : Vm.step (arE op x y) ⟨[y, x], [], [], [], 2, 2, false, 0, 0⟩ = arM op x y := by
  rcases isTwo_ops h2 with rfl | rfl | rfl | rfl | rfl | rfl | rfl | rfl | rfl | rfl | rfl | rfl | rfl | rfl | rfl | rfl | rfl | rfl <;> kernel_rfl
theorem fin_s {E : En} {k : Nat} {m : Mc} (h : m.dn = false) : fin E (k + 1) m = fin E k (Vm.step E m) := by simp only [fin]; rw [if_neg (by simp [h])]
theorem ar_end {op : Nat} {x y : Int} (h2 : isTwo op) : endOf (arE op x y) = if (two op x y).2 ≠ 0 then arM op x y else ⟨[], [], [(two op x y).1], [], 4, 4, true, 0, 0⟩ := by
  have e0 : mc0 (arE op x y) = ⟨[], [], [], [], 0, 0, false, 0, 0⟩ := rfl
  have e1 : Vm.step (arE op x y) ⟨[], [], [], [], 0, 0, false, 0, 0⟩ = ⟨[x], [], [], [], 1, 1, false, 0, 0⟩ := by kernel_rfl
  have e2 : Vm.step (arE op x y) ⟨[x], [], [], [], 1, 1, false, 0, 0⟩ = ⟨[y, x], [], [], [], 2, 2, false, 0, 0⟩ := by kernel_rfl
  unfold endOf
  rw [e0, show (257 : Nat) = 253 + 1 + 1 + 1 + 1 from rfl, fin_s rfl, e1, fin_s rfl, e2, fin_s rfl, ar_3 h2]
  by_cases hr : (two op x y).2 ≠ 0
  · rw [if_pos hr]
    exact fin_dn (by unfold arM; rw [if_pos hr]) _
  · rw [if_neg hr]
    have e3 : arM op x y = ⟨[(two op x y).1], [], [], [], 3, 3, false, 0, 0⟩ := by unfold arM; rw [if_neg hr]
    rw [e3, fin_s rfl]
    generalize (two op x y).1 = v
    have e4 : Vm.step (arE op x y) ⟨[v], [], [], [], 3, 3, false, 0, 0⟩ = ⟨[], [], [v], [], 4, 4, true, 0, 0⟩ := by kernel_rfl
    rw [e4]
    exact fin_dn rfl _
theorem ar_bad {op : Nat} {x y : Int} (h2 : isTwo op) (hr : (two op x y).2 ≠ 0) : runE (arE op x y) = ⟨false, (two op x y).2, 0, [], [], 3⟩ := by
  rw [efOf_end (newE_0 (ar_new h2)), ar_end h2, if_pos hr]
  unfold arM
  rw [if_pos hr]
  simp [hr]
theorem ar_ok {op : Nat} {x y : Int} (h2 : isTwo op) (hr : (two op x y).2 = 0) : runE (arE op x y) = ⟨true, 0, 0, [(two op x y).1], [], 4⟩ := by
  rw [efOf_end (newE_0 (ar_new h2)), ar_end h2, if_neg (fun h => h hr)]
  rfl
set_option maxRecDepth 4000 in
theorem reckoned_ok {op : Nat} {x y : Int} {w : World} {K : Int → World → Prop} (h2 : isTwo op) (hf : (two op x y).2 = 0) (hK : K (two op x y).1 w) : c_preludelaw05_reckoned op x y w K := by
  refine sim_preludelaw05_reckoned ?_
  unfold sh_preludelaw05_reckoned
  rcases isTwo_ops h2 with rfl | rfl | rfl | rfl | rfl | rfl | rfl | rfl | rfl | rfl | rfl | rfl | rfl | rfl | rfl | rfl | rfl | rfl
  · exact hK
  · exact hK
  · exact hK
  · have h0 : y ≠ 0 := fun h => by simp [two, h] at hf
    have e : two ((13 : Nat) : Int) x y = (Vm.wr (x.tdiv y), 0) := by simp [two, h0]
    rw [e] at hK
    exact (⟨h0, hK⟩ : dzP y _)
  · have h0 : y ≠ 0 := fun h => by simp [two, h] at hf
    have e : two ((14 : Nat) : Int) x y = (x.tmod y, 0) := by simp [two, h0]
    rw [e] at hK
    exact (⟨h0, hK⟩ : dzP y _)
  · exact hK
  · exact hK
  · exact hK
  · have h0 : ¬ y < 0 := fun h => by simp [two, h] at hf
    have e : two ((18 : Nat) : Int) x y = (Vm.wr (x * 2 ^ min (IntKind.u64.wrap y).toNat (IntKind.bits .i64)), 0) := by simp [two, h0]
    rw [e] at hK
    exact (⟨u64_nonneg y, hK⟩ : shP _ _)
  · have h0 : ¬ y < 0 := fun h => by simp [two, h] at hf
    have e : two ((19 : Nat) : Int) x y = (x.fdiv (2 ^ min (IntKind.u64.wrap y).toNat (IntKind.bits .i64)), 0) := by simp [two, h0]
    rw [e] at hK
    exact (⟨u64_nonneg y, hK⟩ : shP _ _)
  · show iteB (x == y) (K 1 w) (K 0 w)
    refine iteB_eq (fun h => ?_) (fun h => ?_)
    · have e : two ((22 : Nat) : Int) x y = (1, 0) := by simp [two, tr, h]
      rw [e] at hK; exact hK
    · have e : two ((22 : Nat) : Int) x y = (0, 0) := by simp [two, tr, h]
      rw [e] at hK; exact hK
  · show iteB (x != y) (K 1 w) (K 0 w)
    refine iteB_ne (fun h => ?_) (fun h => ?_)
    · have e : two ((23 : Nat) : Int) x y = (1, 0) := by simp [two, tr, h]
      rw [e] at hK; exact hK
    · have e : two ((23 : Nat) : Int) x y = (0, 0) := by simp [two, tr, h]
      rw [e] at hK; exact hK
  · show iteB (decide (x < y)) (K 1 w) (K 0 w)
    refine iteB_dec (fun h => ?_) (fun h => ?_)
    · have e : two ((24 : Nat) : Int) x y = (1, 0) := by simp [two, tr, h]
      rw [e] at hK; exact hK
    · have e : two ((24 : Nat) : Int) x y = (0, 0) := by simp [two, tr, h]
      rw [e] at hK; exact hK
  · show iteB (decide (x ≤ y)) (K 1 w) (K 0 w)
    refine iteB_dec (fun h => ?_) (fun h => ?_)
    · have e : two ((25 : Nat) : Int) x y = (1, 0) := by simp [two, tr, h]
      rw [e] at hK; exact hK
    · have e : two ((25 : Nat) : Int) x y = (0, 0) := by simp [two, tr, h]
      rw [e] at hK; exact hK
  · show iteB (decide (x > y)) (K 1 w) (K 0 w)
    refine iteB_dec (fun h => ?_) (fun h => ?_)
    · have e : two ((26 : Nat) : Int) x y = (1, 0) := by simp [two, tr, h]
      rw [e] at hK; exact hK
    · have e : two ((26 : Nat) : Int) x y = (0, 0) := by simp [two, tr, h]
      rw [e] at hK; exact hK
  · show iteB (decide (x ≥ y)) (K 1 w) (K 0 w)
    refine iteB_dec (fun h => ?_) (fun h => ?_)
    · have e : two ((27 : Nat) : Int) x y = (1, 0) := by simp [two, tr, h]
      rw [e] at hK; exact hK
    · have e : two ((27 : Nat) : Int) x y = (0, 0) := by simp [two, tr, h]
      rw [e] at hK; exact hK
  · have e : (if y < x then y else x) = min x y := by rw [Int.min_def]; split <;> split <;> omega
    show K (if y < x then y else x) w
    rw [e]; exact hK
  · have e : (if y > x then y else x) = max x y := by rw [Int.max_def]; split <;> split <;> omega
    show K (if y > x then y else x) w
    rw [e]; exact hK
def arOps : List Nat := [10, 11, 12, 13, 14, 15, 16, 17, 18, 19, 22, 23, 24, 25, 26, 27, 28, 29]
set_option maxRecDepth 20000 in
set_option maxHeartbeats 4000000 in
theorem law_VmArith {which x y : Int} {w : World} (w0 : (Lit.int .i64 which).wf = true) (w1 : (Lit.int .i64 x).wf = true) (w2 : (Lit.int .i64 y).wf = true) : c_preludelaw05_VmArith which x y w fun r w' => r = true ∧ Chg Nil w w' := by
  refine sim_preludelaw05_VmArith ?_
  unfold sh_preludelaw05_VmArith
  refine newB fun k1 v1 hc1 hb1 hk1 hs1 => ?_
  have P0 : PreN 18 v1 k1 _ (fun i => .int .i64 (arOps[i]?.getD 0 : Nat)) 0 := ⟨_, hb1, rfl, fun j hj => absurd hj (by omega)⟩
  refine stNn (i := 0) P0 (by omega) rfl fun u0 gc0 P1 gs0 => ?_
  refine stNn P1 (by omega) rfl fun u1 gc1 P2 gs1 => ?_
  refine stNn P2 (by omega) rfl fun u2 gc2 P3 gs2 => ?_
  refine stNn P3 (by omega) rfl fun u3 gc3 P4 gs3 => ?_
  refine stNn P4 (by omega) rfl fun u4 gc4 P5 gs4 => ?_
  refine stNn P5 (by omega) rfl fun u5 gc5 P6 gs5 => ?_
  refine stNn P6 (by omega) rfl fun u6 gc6 P7 gs6 => ?_
  refine stNn P7 (by omega) rfl fun u7 gc7 P8 gs7 => ?_
  refine stNn P8 (by omega) rfl fun u8 gc8 P9 gs8 => ?_
  refine stNn P9 (by omega) rfl fun u9 gc9 P10 gs9 => ?_
  refine stNn P10 (by omega) rfl fun u10 gc10 P11 gs10 => ?_
  refine stNn P11 (by omega) rfl fun u11 gc11 P12 gs11 => ?_
  refine stNn P12 (by omega) rfl fun u12 gc12 P13 gs12 => ?_
  refine stNn P13 (by omega) rfl fun u13 gc13 P14 gs13 => ?_
  refine stNn P14 (by omega) rfl fun u14 gc14 P15 gs14 => ?_
  refine stNn P15 (by omega) rfl fun u15 gc15 P16 gs15 => ?_
  refine stNn P16 (by omega) rfl fun u16 gc16 P17 gs16 => ?_
  refine stNn P17 (by omega) rfl fun u17 gc17 P18 gs17 => ?_
  have G0 : Ch [some k1] v1 u0 := gc0
  have G1 : Ch [some k1] v1 u1 := G0.tr gc1
  have G2 : Ch [some k1] v1 u2 := G1.tr gc2
  have G3 : Ch [some k1] v1 u3 := G2.tr gc3
  have G4 : Ch [some k1] v1 u4 := G3.tr gc4
  have G5 : Ch [some k1] v1 u5 := G4.tr gc5
  have G6 : Ch [some k1] v1 u6 := G5.tr gc6
  have G7 : Ch [some k1] v1 u7 := G6.tr gc7
  have G8 : Ch [some k1] v1 u8 := G7.tr gc8
  have G9 : Ch [some k1] v1 u9 := G8.tr gc9
  have G10 : Ch [some k1] v1 u10 := G9.tr gc10
  have G11 : Ch [some k1] v1 u11 := G10.tr gc11
  have G12 : Ch [some k1] v1 u12 := G11.tr gc12
  have G13 : Ch [some k1] v1 u13 := G12.tr gc13
  have G14 : Ch [some k1] v1 u14 := G13.tr gc14
  have G15 : Ch [some k1] v1 u15 := G14.tr gc15
  have G16 : Ch [some k1] v1 u16 := G15.tr gc16
  have G17 : Ch [some k1] v1 u17 := G16.tr gc17
  clear gc0 gs0 P0 gc1 gs1 P1 gc2 gs2 P2 gc3 gs3 P3 gc4 gs4 P4 gc5 gs5 P5 gc6 gs6 P6 gc7 gs7 P7 gc8 gs8 P8 gc9 gs9 P9 gc10 gs10 P10 gc11 gs11 P11 gc12 gs12 P12 gc13 gs13 P13 gc14 gs14 P14 gc15 gs15 P15 gc16 gs16 P16 gc17 gs17 P17
  clear G0 G1 G2 G3 G4 G5 G6 G7 G8 G9 G10 G11 G12 G13 G14 G15 G16
  refine ⟨by decide, ?_⟩
  have hu := u64_nonneg which
  have hi0 : 0 ≤ Int.tmod (IntKind.u64.wrap which) 18 := Int.tmod_nonneg _ hu
  have hi1 : Int.tmod (IntKind.u64.wrap which) 18 < 18 := Int.tmod_lt_of_pos _ (by decide)
  generalize Int.tmod (IntKind.u64.wrap which) 18 = ix at *
  refine ⟨hi0, hi1, ?_⟩
  obtain ⟨cur, hbl, hsz, hcell⟩ := P18
  have hix : ix.toNat < 18 := by omega
  obtain ⟨op, hop, h2⟩ : ∃ op : Nat, arOps[ix.toNat]? = some op ∧ isTwo op := by
    have hl : ix.toNat < arOps.length := hix
    refine ⟨arOps[ix.toNat], List.getElem?_eq_getElem hl, ?_⟩
    have hm : arOps[ix.toNat] ∈ arOps := List.getElem_mem _
    generalize arOps[ix.toNat] = o at hm
    simp [arOps] at hm
    unfold isTwo
    omega
  have hv := hcell _ hix
  dsimp only at hv
  rw [hop] at hv
  rw [Nat.mul_one]
  refine ldI_b (n := (op : Int)) hbl hv ?_
  refine newB fun k2 v19 hc19 hb19 hk2 hs19 => newB fun k3 v20 hc20 hb20 hk3 hs20 => ?_
  have hb19' := hb19.ch0 hc20
  refine stPr hb20 fun v21 hc21 hb21 hs21 => ?_
  refine ldPr (s := ⟨some ⟨k2, 0, none⟩, 4, 4⟩) hb21 ?_
  have hlt := hb19.below
  have hG : RdC v21 ⟨some ⟨k2, 0, none⟩, (arE op x y).is.length, 4⟩ (arE op x y).is := Blk.rdC (cs := (arE op x y).is) (hb19'.ch hc21 (nin1' (by omega))) (fun j v hv => arr_of hv) (Nat.le_refl _)
  have hnil : ∀ w', RdQ w' 1 ⟨none, 0, 0⟩ (Is .i64 []) := fun w' => ⟨rfl, Nat.le_refl _, fun j v hv => by simp [Is] at hv⟩
  have hnil2 : ∀ w', RdQ w' 2 ⟨none, 0, 0⟩ (flatR []) := fun w' => ⟨rfl, Nat.le_refl _, fun j v hv => by simp [flatR] at hv⟩
  refine run_ok (E := arE op x y) hG (fun h => by cases h) (hnil _) (fun _ => ⟨rfl, rfl⟩) (hnil2 _) (fun _ => ⟨rfl, rfl⟩) (show 4 ≤ 8800000000000 by decide) fun so sp v22 hE hc22 => ?_
  rw [ar_new h2]
  have hc0 : Ch [] w v22 := ((((hc1.trN G17 (by omega)).tr hc19).tr hc20).trN hc21 (by have := hc1.size; have := G17.size; omega)).tr hc22
  have hl := ef_len (arE op x y)
  refine newB fun k4 v23 hc23 hb23 hk4 hs23 => ?_
  refine st6n hb23 fun v24 hc24 hb24 hs24 => ?_
  refine newB fun k5 v25 hc25 hb25 hk5 hs25 => ?_
  refine st6n hb25 fun v26 hc26 hb26 hs26 => ?_
  replace hb24 : Blk v24 k4 (efC (runE (arE op x y)) so sp) _ := hb24
  have hk45 := hb24.below
  have hc22' : Ch [] v22 v24 := hc23.trN hc24 (by omega)
  have hc24' : Ch [] v24 v26 := hc25.trN hc26 (by omega)
  have C := hc22'.tr hc24'
  replace hb24 := hb24.ch0 hc24'
  replace hc0 := (hc0.tr hc22').tr hc24'
  have k5g : v24.heap.size ≤ k5 := by omega
  have k5w : w.heap.size ≤ k5 := by have := hc1.size; have := G17.size; have := hc19.size; have := hc20.size; have := hc21.size; have := hc22.size; have := hc22'.size; omega
  have k5v : v22.heap.size ≤ k5 := by have := hc22'.size; omega
  have fK : ∀ code : Int, (two op x y).2 = code → code ≠ 0 → stP ⟨k5, 0, none⟩ (.bool false) v26 fun w60 => stP ((⟨k5, 0, none⟩ : Addr).add 1) (.int .i64 code) w60 fun w61 => stP ((⟨k5, 0, none⟩ : Addr).add 2) (.int .i64 0) w61 fun w62 => stP ((⟨k5, 0, none⟩ : Addr).add 3) (.slice none 0 0) w62 fun w63 => stP ((⟨k5, 0, none⟩ : Addr).add 4) (.slice none 0 0) w63 fun w64 => stP ((⟨k5, 0, none⟩ : Addr).add 5) (.int .i64 3) w64 fun w65 => iteB ((0 : Int) == 0)
      (ldB ⟨k4, 0, none⟩ w65 fun t66 => ldI .i64 ((⟨k4, 0, none⟩ : Addr).add 1) w65 fun n67 => ldI .i64 ((⟨k4, 0, none⟩ : Addr).add 2) w65 fun n68 => ldS ((⟨k4, 0, none⟩ : Addr).add 3) w65 fun s69 => ldS ((⟨k4, 0, none⟩ : Addr).add 4) w65 fun s70 => ldI .i64 ((⟨k4, 0, none⟩ : Addr).add 5) w65 fun n71 => ldB ⟨k5, 0, none⟩ w65 fun t72 => ldI .i64 ((⟨k5, 0, none⟩ : Addr).add 1) w65 fun n73 => ldI .i64 ((⟨k5, 0, none⟩ : Addr).add 2) w65 fun n74 => ldS ((⟨k5, 0, none⟩ : Addr).add 3) w65 fun s75 => ldS ((⟨k5, 0, none⟩ : Addr).add 4) w65 fun s76 => ldI .i64 ((⟨k5, 0, none⟩ : Addr).add 5) w65 fun n77 => c_preludelaw05_sameEffect t66 n67 n68 s69 s70 n71 t72 n73 n74 s75 s76 n77 w65 fun r78 w79 => (fun r w' => r = true ∧ Chg Nil w w') r78 w79)
      ((fun r w' => r = true ∧ Chg Nil w w') false w65) := fun code hc hne => by
    have er := ar_bad h2 (by rw [hc]; exact hne)
    rw [hc] at er
    refine st6n hb26 fun v27 hc27 hb27 hs27 => iteB_pos rfl ?_
    have hb24' := hb24.ch hc27 (nin1' (by omega))
    refine ld6 (so := so) (sp := sp) hb24' (ld6 (so := ⟨none, 0, 0⟩) (sp := ⟨none, 0, 0⟩) hb27 ?_)
    have hEE := hE.ch0 (C.trN hc27 k5v)
    rw [er] at hEE hl ⊢
    exact hEE.same (e := ⟨false, code, 0, [], [], 3⟩) (n2 := 0) ⟨Own.nil _ _ _, Own.nil _ _ _, fun k hk => (by cases hk), fun k hk => (by cases hk), fun k hk => (by cases hk)⟩ hl fun w' hc' => ⟨rfl, (hc0.trN hc27 k5w).tr hc'⟩
  have oK : (two op x y).2 = 0 → c_preludelaw05_reckoned op x y v26 fun r100 w101 => newP #[.int .i64 r100] 2 w101 fun a102 w103 => stP ((⟨k5, 0, none⟩ : Addr).add 3) (.slice (some a102) 1 1) w103 fun w104 => iteB ((0 : Int) == 0)
      (ldB ⟨k4, 0, none⟩ w104 fun t66 => ldI .i64 ((⟨k4, 0, none⟩ : Addr).add 1) w104 fun n67 => ldI .i64 ((⟨k4, 0, none⟩ : Addr).add 2) w104 fun n68 => ldS ((⟨k4, 0, none⟩ : Addr).add 3) w104 fun s69 => ldS ((⟨k4, 0, none⟩ : Addr).add 4) w104 fun s70 => ldI .i64 ((⟨k4, 0, none⟩ : Addr).add 5) w104 fun n71 => ldB ⟨k5, 0, none⟩ w104 fun t72 => ldI .i64 ((⟨k5, 0, none⟩ : Addr).add 1) w104 fun n73 => ldI .i64 ((⟨k5, 0, none⟩ : Addr).add 2) w104 fun n74 => ldS ((⟨k5, 0, none⟩ : Addr).add 3) w104 fun s75 => ldS ((⟨k5, 0, none⟩ : Addr).add 4) w104 fun s76 => ldI .i64 ((⟨k5, 0, none⟩ : Addr).add 5) w104 fun n77 => c_preludelaw05_sameEffect t66 n67 n68 s69 s70 n71 t72 n73 n74 s75 s76 n77 w104 fun r78 w79 => (fun r w' => r = true ∧ Chg Nil w w') r78 w79)
      ((fun r w' => r = true ∧ Chg Nil w w') false w104) := fun hr => by
    have er := ar_ok h2 hr
    refine reckoned_ok h2 hr ?_
    generalize (two op x y).1 = v at er
    refine newB fun k6 v27 hc27 hb27 hk6 hs27 => ?_
    have hb26' := hb26.ch0 hc27
    have h56 := hb26.below
    refine stB hb26' (by simp) fun v28 hc28 hb28 hs28 => iteB_pos rfl ?_
    have hk27 := hb27.ch hc28 (nin1' (by omega))
    have hb24' := (hb24.ch0 hc27).ch hc28 (nin1' (by omega))
    have hb28' : Blk v28 k5 #[.bool true, .int .i64 0, .int .i64 0, .slice (some ⟨k6, 0, none⟩) 1 1, .slice none 0 0, .int .i64 4] _ := hb28
    refine ld6 (so := so) (sp := sp) hb24' (ld6 (so := ⟨some ⟨k6, 0, none⟩, 1, 1⟩) (sp := ⟨none, 0, 0⟩) hb28' ?_)
    have hEE := hE.ch0 ((C.tr hc27).trN hc28 k5v)
    rw [er] at hEE hl ⊢
    have hw : Own v28 2 1 ⟨some ⟨k6, 0, none⟩, 1, 1⟩ (Is .i64 [v]) := ⟨rfl, .inr ⟨k6, 1, _, rfl, Nat.zero_le _, hk27, Nat.le_refl _, by unfold maxLen; omega, rfl, rfl⟩⟩
    exact hEE.same (e := ⟨true, 0, 0, [v], [], 4⟩) (n2 := 0) ⟨hw, Own.nil _ _ _, fun k _ => Nat.zero_le _, fun k hk => (by cases hk), fun k _ hk => (by cases hk)⟩ hl fun w' hc' => ⟨rfl, ((hc0.tr hc27).trN hc28 k5w).tr hc'⟩
  rcases isTwo_ops h2 with rfl | rfl | rfl | rfl | rfl | rfl | rfl | rfl | rfl | rfl | rfl | rfl | rfl | rfl | rfl | rfl | rfl | rfl
  · exact iteB_neg rfl (iteB_neg rfl (iteB_neg rfl (iteB_neg rfl (oK rfl))))
  · exact iteB_neg rfl (iteB_neg rfl (iteB_neg rfl (iteB_neg rfl (oK rfl))))
  · exact iteB_neg rfl (iteB_neg rfl (iteB_neg rfl (iteB_neg rfl (oK rfl))))
  · refine iteB_pos rfl (iteB_eq (fun h0 => fK 201 (by simp [two, h0]) (by decide)) fun h0 => iteB_neg rfl (iteB_neg rfl (oK (by simp [two, h0]))))
  · refine iteB_neg rfl (iteB_pos rfl (iteB_eq (fun h0 => fK 201 (by simp [two, h0]) (by decide)) fun h0 => iteB_neg rfl (iteB_neg rfl (oK (by simp [two, h0])))))
  · exact iteB_neg rfl (iteB_neg rfl (iteB_neg rfl (iteB_neg rfl (oK rfl))))
  · exact iteB_neg rfl (iteB_neg rfl (iteB_neg rfl (iteB_neg rfl (oK rfl))))
  · exact iteB_neg rfl (iteB_neg rfl (iteB_neg rfl (iteB_neg rfl (oK rfl))))
  · refine iteB_neg rfl (iteB_neg rfl (iteB_pos rfl (iteB_dec (fun h0 => fK 202 (by simp [two, h0]) (by decide)) fun h0 => oK (by simp [two, h0]))))
  · refine iteB_neg rfl (iteB_neg rfl (iteB_neg rfl (iteB_pos rfl (iteB_dec (fun h0 => fK 202 (by simp [two, h0]) (by decide)) fun h0 => oK (by simp [two, h0])))))
  · exact iteB_neg rfl (iteB_neg rfl (iteB_neg rfl (iteB_neg rfl (oK rfl))))
  · exact iteB_neg rfl (iteB_neg rfl (iteB_neg rfl (iteB_neg rfl (oK rfl))))
  · exact iteB_neg rfl (iteB_neg rfl (iteB_neg rfl (iteB_neg rfl (oK rfl))))
  · exact iteB_neg rfl (iteB_neg rfl (iteB_neg rfl (iteB_neg rfl (oK rfl))))
  · exact iteB_neg rfl (iteB_neg rfl (iteB_neg rfl (iteB_neg rfl (oK rfl))))
  · exact iteB_neg rfl (iteB_neg rfl (iteB_neg rfl (iteB_neg rfl (oK rfl))))
  · exact iteB_neg rfl (iteB_neg rfl (iteB_neg rfl (iteB_neg rfl (oK rfl))))
  · exact iteB_neg rfl (iteB_neg rfl (iteB_neg rfl (iteB_neg rfl (oK rfl))))
end Go.Proofs.Ytlkgnfpjmafdkaa
