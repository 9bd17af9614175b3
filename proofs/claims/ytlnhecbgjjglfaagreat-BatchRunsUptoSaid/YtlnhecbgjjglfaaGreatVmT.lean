/- VmT: vm.New, the machine's answers, vm.Run. -/
import Derived.Test.YtlnhecbgjjglfaaGreatVmS
set_option linter.unusedVariables false
set_option linter.unusedSimpArgs false
namespace Go.Proofs.YtlnhecbgjjglfaaGreat
open Go Go.Sh Go.Pl Go.RowKit Go.Lang Go.Vm
theorem TFn : (152 : Nat) = 152 := rfl
def fnAt (k : Nat → Nat) : Nat → Value
  | 10 => .func (.func 106) #[] #[.pointer (some ⟨k 10, 0, none⟩)]
  | 11 => .func (.func 106) #[] #[.pointer (some ⟨k 11, 0, none⟩)]
  | 12 => .func (.func 106) #[] #[.pointer (some ⟨k 12, 0, none⟩)]
  | 13 => .func (.func 107) #[] #[.pointer (some ⟨k 13, 0, none⟩)]
  | 14 => .func (.func 107) #[] #[.pointer (some ⟨k 14, 0, none⟩)]
  | 15 => .func (.func 106) #[] #[.pointer (some ⟨k 15, 0, none⟩)]
  | 16 => .func (.func 106) #[] #[.pointer (some ⟨k 16, 0, none⟩)]
  | 17 => .func (.func 106) #[] #[.pointer (some ⟨k 17, 0, none⟩)]
  | 18 => .func (.func 108) #[] #[.pointer (some ⟨k 18, 0, none⟩)]
  | 19 => .func (.func 108) #[] #[.pointer (some ⟨k 19, 0, none⟩)]
  | 22 => .func (.func 109) #[] #[.pointer (some ⟨k 22, 0, none⟩)]
  | 23 => .func (.func 109) #[] #[.pointer (some ⟨k 23, 0, none⟩)]
  | 24 => .func (.func 109) #[] #[.pointer (some ⟨k 24, 0, none⟩)]
  | 25 => .func (.func 109) #[] #[.pointer (some ⟨k 25, 0, none⟩)]
  | 26 => .func (.func 109) #[] #[.pointer (some ⟨k 26, 0, none⟩)]
  | 27 => .func (.func 109) #[] #[.pointer (some ⟨k 27, 0, none⟩)]
  | 28 => .func (.func 106) #[] #[.pointer (some ⟨k 28, 0, none⟩)]
  | 29 => .func (.func 106) #[] #[.pointer (some ⟨k 29, 0, none⟩)]
  | _ => .nilFunc
/-- A block whose first cells are these. -/
def Pre (w : World) (b : Nat) (t : TypeId) (f : Nat → Value) (i : Nat) : Prop := ∃ cur : Array Value, Blk w b cur t ∧ cur.size = 37 ∧ ∀ j, j < i → cur[j]? = some (f j)
theorem stN {w : World} {b : Nat} {t : TypeId} {f : Nat → Value} {i : Nat} {v : Value} {K : World → Prop} (h : Pre w b t f i) (hi : i < 37) (hv : v = f i) (hK : ∀ w', Ch [some b] w w' → Pre w' b t f (i + 1) → K w') : stP ((⟨b, 0, none⟩ : Addr).add i) v w K := by
  obtain ⟨cur, hb, hs, hp⟩ := h
  refine stB hb (by omega) fun w' hc hb' _ => hK w' hc ⟨_, hb', by simpa using hs, fun j hj => ?_⟩
  rw [Array.getElem?_setIfInBounds]
  split
  · rename_i e
    subst e
    rw [if_pos (by omega), hv]
  · exact hp j (by omega)
theorem ldN {w : World} {b : Nat} {t : TypeId} {f : Nat → Value} {i : Nat} {K : Value → Prop} (h : Pre w b t f 37) (hi : i < 37) (hK : K (f i)) : ldV ((⟨b, 0, none⟩ : Addr).add i) w K := by
  obtain ⟨cur, hb, hs, hp⟩ := h
  exact ldV_b hb (hp i hi) hK
set_option maxRecDepth 20000 in
set_option maxHeartbeats 1000000 in
theorem pairs_ok {w : World} {K : Value → Value → Value → Value → Value → Value → Value → Value → Value → Value → Value → Value → Value → Value → Value → Value → Value → Value → Value → Value → Value → Value → Value → Value → Value → Value → Value → Value → Value → Value → Value → Value → Value → Value → Value → Value → Value → World → Prop} (hK : ∀ (k : Nat → Nat) w', (∀ op, isTwo op → w.heap.size ≤ k op ∧ Clo w' (fun i => if w.heap.size ≤ i then 6 else 0) (fnAt k op) (gOf op) (tOf op) (hOf op)) → Ch [] w w' → K (fnAt k 0) (fnAt k 1) (fnAt k 2) (fnAt k 3) (fnAt k 4) (fnAt k 5) (fnAt k 6) (fnAt k 7) (fnAt k 8) (fnAt k 9) (fnAt k 10) (fnAt k 11) (fnAt k 12) (fnAt k 13) (fnAt k 14) (fnAt k 15) (fnAt k 16) (fnAt k 17) (fnAt k 18) (fnAt k 19) (fnAt k 20) (fnAt k 21) (fnAt k 22) (fnAt k 23) (fnAt k 24) (fnAt k 25) (fnAt k 26) (fnAt k 27) (fnAt k 28) (fnAt k 29) (fnAt k 30) (fnAt k 31) (fnAt k 32) (fnAt k 33) (fnAt k 34) (fnAt k 35) (fnAt k 36) w') : c_vm_pairs w K := by
  refine sim_vm_pairs ?_
  unfold sh_vm_pairs
  refine newB fun k0 w0 hc0 hb0 hk0 hs0 => ?_
  refine sim_vm_plain ?_
  unfold sh_vm_plain
  refine newB fun k10 w10 hc10 hb10 hk10 hs10 => ?_
  refine sim_vm_plain ?_
  unfold sh_vm_plain
  refine newB fun k11 w11 hc11 hb11 hk11 hs11 => ?_
  refine sim_vm_plain ?_
  unfold sh_vm_plain
  refine newB fun k12 w12 hc12 hb12 hk12 hs12 => ?_
  refine sim_vm_divides ?_
  unfold sh_vm_divides
  refine newB fun k13 w13 hc13 hb13 hk13 hs13 => ?_
  refine sim_vm_divides ?_
  unfold sh_vm_divides
  refine newB fun k14 w14 hc14 hb14 hk14 hs14 => ?_
  refine sim_vm_plain ?_
  unfold sh_vm_plain
  refine newB fun k15 w15 hc15 hb15 hk15 hs15 => ?_
  refine sim_vm_plain ?_
  unfold sh_vm_plain
  refine newB fun k16 w16 hc16 hb16 hk16 hs16 => ?_
  refine sim_vm_plain ?_
  unfold sh_vm_plain
  refine newB fun k17 w17 hc17 hb17 hk17 hs17 => ?_
  refine sim_vm_shifts ?_
  unfold sh_vm_shifts
  refine newB fun k18 w18 hc18 hb18 hk18 hs18 => ?_
  refine sim_vm_shifts ?_
  unfold sh_vm_shifts
  refine newB fun k19 w19 hc19 hb19 hk19 hs19 => ?_
  refine sim_vm_asks ?_
  unfold sh_vm_asks
  refine newB fun k22 w22 hc22 hb22 hk22 hs22 => ?_
  refine sim_vm_asks ?_
  unfold sh_vm_asks
  refine newB fun k23 w23 hc23 hb23 hk23 hs23 => ?_
  refine sim_vm_asks ?_
  unfold sh_vm_asks
  refine newB fun k24 w24 hc24 hb24 hk24 hs24 => ?_
  refine sim_vm_asks ?_
  unfold sh_vm_asks
  refine newB fun k25 w25 hc25 hb25 hk25 hs25 => ?_
  refine sim_vm_asks ?_
  unfold sh_vm_asks
  refine newB fun k26 w26 hc26 hb26 hk26 hs26 => ?_
  refine sim_vm_asks ?_
  unfold sh_vm_asks
  refine newB fun k27 w27 hc27 hb27 hk27 hs27 => ?_
  refine sim_vm_plain ?_
  unfold sh_vm_plain
  refine newB fun k28 w28 hc28 hb28 hk28 hs28 => ?_
  refine sim_vm_plain ?_
  unfold sh_vm_plain
  refine newB fun k29 w29 hc29 hb29 hk29 hs29 => ?_
  have hz := hc0.size
  have C29 : Ch [] w29 w29 := Ch.refl _ _
  have C28 : Ch [] w28 w29 := hc29.tr C29
  have C27 : Ch [] w27 w29 := hc28.tr C28
  have C26 : Ch [] w26 w29 := hc27.tr C27
  have C25 : Ch [] w25 w29 := hc26.tr C26
  have C24 : Ch [] w24 w29 := hc25.tr C25
  have C23 : Ch [] w23 w29 := hc24.tr C24
  have C22 : Ch [] w22 w29 := hc23.tr C23
  have C19 : Ch [] w19 w29 := hc22.tr C22
  have C18 : Ch [] w18 w29 := hc19.tr C19
  have C17 : Ch [] w17 w29 := hc18.tr C18
  have C16 : Ch [] w16 w29 := hc17.tr C17
  have C15 : Ch [] w15 w29 := hc16.tr C16
  have C14 : Ch [] w14 w29 := hc15.tr C15
  have C13 : Ch [] w13 w29 := hc14.tr C14
  have C12 : Ch [] w12 w29 := hc13.tr C13
  have C11 : Ch [] w11 w29 := hc12.tr C12
  have C10 : Ch [] w10 w29 := hc11.tr C11
  have C0 : Ch [] w0 w29 := hc10.tr C10
  have hz10 := hc10.size
  have hz11 := hc11.size
  have hz12 := hc12.size
  have hz13 := hc13.size
  have hz14 := hc14.size
  have hz15 := hc15.size
  have hz16 := hc16.size
  have hz17 := hc17.size
  have hz18 := hc18.size
  have hz19 := hc19.size
  have hz22 := hc22.size
  have hz23 := hc23.size
  have hz24 := hc24.size
  have hz25 := hc25.size
  have hz26 := hc26.size
  have hz27 := hc27.size
  have hz28 := hc28.size
  have hz29 := hc29.size
  have hbl0 := hb0.ch0 C0
  let k : Nat → Nat := fun i => match i with | 10 => k10 | 11 => k11 | 12 => k12 | 13 => k13 | 14 => k14 | 15 => k15 | 16 => k16 | 17 => k17 | 18 => k18 | 19 => k19 | 22 => k22 | 23 => k23 | 24 => k24 | 25 => k25 | 26 => k26 | 27 => k27 | 28 => k28 | 29 => k29 | _ => 0
  have P0 : Pre w29 k0 _ (fnAt k) 0 := ⟨_, hbl0, rfl, fun j hj => absurd hj (by omega)⟩
  refine stN (i := 0) P0 (by omega) rfl fun v0 gc0 P1 => ?_
  refine stN P1 (by omega) rfl fun v1 gc1 P2 => ?_
  refine stN P2 (by omega) rfl fun v2 gc2 P3 => ?_
  refine stN P3 (by omega) rfl fun v3 gc3 P4 => ?_
  refine stN P4 (by omega) rfl fun v4 gc4 P5 => ?_
  refine stN P5 (by omega) rfl fun v5 gc5 P6 => ?_
  refine stN P6 (by omega) rfl fun v6 gc6 P7 => ?_
  refine stN P7 (by omega) rfl fun v7 gc7 P8 => ?_
  refine stN P8 (by omega) rfl fun v8 gc8 P9 => ?_
  refine stN P9 (by omega) rfl fun v9 gc9 P10 => ?_
  refine stN P10 (by omega) rfl fun v10 gc10 P11 => ?_
  refine stN P11 (by omega) rfl fun v11 gc11 P12 => ?_
  refine stN P12 (by omega) rfl fun v12 gc12 P13 => ?_
  refine stN P13 (by omega) rfl fun v13 gc13 P14 => ?_
  refine stN P14 (by omega) rfl fun v14 gc14 P15 => ?_
  refine stN P15 (by omega) rfl fun v15 gc15 P16 => ?_
  refine stN P16 (by omega) rfl fun v16 gc16 P17 => ?_
  refine stN P17 (by omega) rfl fun v17 gc17 P18 => ?_
  refine stN P18 (by omega) rfl fun v18 gc18 P19 => ?_
  refine stN P19 (by omega) rfl fun v19 gc19 P20 => ?_
  refine stN P20 (by omega) rfl fun v20 gc20 P21 => ?_
  refine stN P21 (by omega) rfl fun v21 gc21 P22 => ?_
  refine stN P22 (by omega) rfl fun v22 gc22 P23 => ?_
  refine stN P23 (by omega) rfl fun v23 gc23 P24 => ?_
  refine stN P24 (by omega) rfl fun v24 gc24 P25 => ?_
  refine stN P25 (by omega) rfl fun v25 gc25 P26 => ?_
  refine stN P26 (by omega) rfl fun v26 gc26 P27 => ?_
  refine stN P27 (by omega) rfl fun v27 gc27 P28 => ?_
  refine stN P28 (by omega) rfl fun v28 gc28 P29 => ?_
  refine stN P29 (by omega) rfl fun v29 gc29 P30 => ?_
  refine stN P30 (by omega) rfl fun v30 gc30 P31 => ?_
  refine stN P31 (by omega) rfl fun v31 gc31 P32 => ?_
  refine stN P32 (by omega) rfl fun v32 gc32 P33 => ?_
  refine stN P33 (by omega) rfl fun v33 gc33 P34 => ?_
  refine stN P34 (by omega) rfl fun v34 gc34 P35 => ?_
  refine stN P35 (by omega) rfl fun v35 gc35 P36 => ?_
  refine stN P36 (by omega) rfl fun v36 gc36 P37 => ?_
  have G0 : Ch [some k0] w29 v0 := gc0
  have G1 : Ch [some k0] w29 v1 := G0.tr gc1
  have G2 : Ch [some k0] w29 v2 := G1.tr gc2
  have G3 : Ch [some k0] w29 v3 := G2.tr gc3
  have G4 : Ch [some k0] w29 v4 := G3.tr gc4
  have G5 : Ch [some k0] w29 v5 := G4.tr gc5
  have G6 : Ch [some k0] w29 v6 := G5.tr gc6
  have G7 : Ch [some k0] w29 v7 := G6.tr gc7
  have G8 : Ch [some k0] w29 v8 := G7.tr gc8
  have G9 : Ch [some k0] w29 v9 := G8.tr gc9
  have G10 : Ch [some k0] w29 v10 := G9.tr gc10
  have G11 : Ch [some k0] w29 v11 := G10.tr gc11
  have G12 : Ch [some k0] w29 v12 := G11.tr gc12
  have G13 : Ch [some k0] w29 v13 := G12.tr gc13
  have G14 : Ch [some k0] w29 v14 := G13.tr gc14
  have G15 : Ch [some k0] w29 v15 := G14.tr gc15
  have G16 : Ch [some k0] w29 v16 := G15.tr gc16
  have G17 : Ch [some k0] w29 v17 := G16.tr gc17
  have G18 : Ch [some k0] w29 v18 := G17.tr gc18
  have G19 : Ch [some k0] w29 v19 := G18.tr gc19
  have G20 : Ch [some k0] w29 v20 := G19.tr gc20
  have G21 : Ch [some k0] w29 v21 := G20.tr gc21
  have G22 : Ch [some k0] w29 v22 := G21.tr gc22
  have G23 : Ch [some k0] w29 v23 := G22.tr gc23
  have G24 : Ch [some k0] w29 v24 := G23.tr gc24
  have G25 : Ch [some k0] w29 v25 := G24.tr gc25
  have G26 : Ch [some k0] w29 v26 := G25.tr gc26
  have G27 : Ch [some k0] w29 v27 := G26.tr gc27
  have G28 : Ch [some k0] w29 v28 := G27.tr gc28
  have G29 : Ch [some k0] w29 v29 := G28.tr gc29
  have G30 : Ch [some k0] w29 v30 := G29.tr gc30
  have G31 : Ch [some k0] w29 v31 := G30.tr gc31
  have G32 : Ch [some k0] w29 v32 := G31.tr gc32
  have G33 : Ch [some k0] w29 v33 := G32.tr gc33
  have G34 : Ch [some k0] w29 v34 := G33.tr gc34
  have G35 : Ch [some k0] w29 v35 := G34.tr gc35
  have G36 : Ch [some k0] w29 v36 := G35.tr gc36
  refine ldN (i := 0) P37 (by omega) ?_
  refine ldN (i := 1) P37 (by omega) ?_
  refine ldN (i := 2) P37 (by omega) ?_
  refine ldN (i := 3) P37 (by omega) ?_
  refine ldN (i := 4) P37 (by omega) ?_
  refine ldN (i := 5) P37 (by omega) ?_
  refine ldN (i := 6) P37 (by omega) ?_
  refine ldN (i := 7) P37 (by omega) ?_
  refine ldN (i := 8) P37 (by omega) ?_
  refine ldN (i := 9) P37 (by omega) ?_
  refine ldN (i := 10) P37 (by omega) ?_
  refine ldN (i := 11) P37 (by omega) ?_
  refine ldN (i := 12) P37 (by omega) ?_
  refine ldN (i := 13) P37 (by omega) ?_
  refine ldN (i := 14) P37 (by omega) ?_
  refine ldN (i := 15) P37 (by omega) ?_
  refine ldN (i := 16) P37 (by omega) ?_
  refine ldN (i := 17) P37 (by omega) ?_
  refine ldN (i := 18) P37 (by omega) ?_
  refine ldN (i := 19) P37 (by omega) ?_
  refine ldN (i := 20) P37 (by omega) ?_
  refine ldN (i := 21) P37 (by omega) ?_
  refine ldN (i := 22) P37 (by omega) ?_
  refine ldN (i := 23) P37 (by omega) ?_
  refine ldN (i := 24) P37 (by omega) ?_
  refine ldN (i := 25) P37 (by omega) ?_
  refine ldN (i := 26) P37 (by omega) ?_
  refine ldN (i := 27) P37 (by omega) ?_
  refine ldN (i := 28) P37 (by omega) ?_
  refine ldN (i := 29) P37 (by omega) ?_
  refine ldN (i := 30) P37 (by omega) ?_
  refine ldN (i := 31) P37 (by omega) ?_
  refine ldN (i := 32) P37 (by omega) ?_
  refine ldN (i := 33) P37 (by omega) ?_
  refine ldN (i := 34) P37 (by omega) ?_
  refine ldN (i := 35) P37 (by omega) ?_
  refine ldN (i := 36) P37 (by omega) ?_
  refine hK k v36 (fun op hop => ?_) ((hc0.tr C0).trN G36 (by omega))
  have hops : op = 10 ∨ op = 11 ∨ op = 12 ∨ op = 13 ∨ op = 14 ∨ op = 15 ∨ op = 16 ∨ op = 17 ∨ op = 18 ∨ op = 19 ∨ op = 22 ∨ op = 23 ∨ op = 24 ∨ op = 25 ∨ op = 26 ∨ op = 27 ∨ op = 28 ∨ op = 29 := by unfold isTwo at hop; omega
  rcases hops with rfl | rfl | rfl | rfl | rfl | rfl | rfl | rfl | rfl | rfl | rfl | rfl | rfl | rfl | rfl | rfl | rfl | rfl
  · refine ⟨show w.heap.size ≤ k10 by omega, ⟨k10, rfl, (hb10.ch0 C10).ch G36 (nin1' (by omega)), ?_⟩⟩
    exact if_pos (by omega)
  · refine ⟨show w.heap.size ≤ k11 by omega, ⟨k11, rfl, (hb11.ch0 C11).ch G36 (nin1' (by omega)), ?_⟩⟩
    exact if_pos (by omega)
  · refine ⟨show w.heap.size ≤ k12 by omega, ⟨k12, rfl, (hb12.ch0 C12).ch G36 (nin1' (by omega)), ?_⟩⟩
    exact if_pos (by omega)
  · refine ⟨show w.heap.size ≤ k13 by omega, ⟨k13, rfl, (hb13.ch0 C13).ch G36 (nin1' (by omega)), ?_⟩⟩
    exact if_pos (by omega)
  · refine ⟨show w.heap.size ≤ k14 by omega, ⟨k14, rfl, (hb14.ch0 C14).ch G36 (nin1' (by omega)), ?_⟩⟩
    exact if_pos (by omega)
  · refine ⟨show w.heap.size ≤ k15 by omega, ⟨k15, rfl, (hb15.ch0 C15).ch G36 (nin1' (by omega)), ?_⟩⟩
    exact if_pos (by omega)
  · refine ⟨show w.heap.size ≤ k16 by omega, ⟨k16, rfl, (hb16.ch0 C16).ch G36 (nin1' (by omega)), ?_⟩⟩
    exact if_pos (by omega)
  · refine ⟨show w.heap.size ≤ k17 by omega, ⟨k17, rfl, (hb17.ch0 C17).ch G36 (nin1' (by omega)), ?_⟩⟩
    exact if_pos (by omega)
  · refine ⟨show w.heap.size ≤ k18 by omega, ⟨k18, rfl, (hb18.ch0 C18).ch G36 (nin1' (by omega)), ?_⟩⟩
    exact if_pos (by omega)
  · refine ⟨show w.heap.size ≤ k19 by omega, ⟨k19, rfl, (hb19.ch0 C19).ch G36 (nin1' (by omega)), ?_⟩⟩
    exact if_pos (by omega)
  · refine ⟨show w.heap.size ≤ k22 by omega, ⟨k22, rfl, (hb22.ch0 C22).ch G36 (nin1' (by omega)), ?_⟩⟩
    exact if_pos (by omega)
  · refine ⟨show w.heap.size ≤ k23 by omega, ⟨k23, rfl, (hb23.ch0 C23).ch G36 (nin1' (by omega)), ?_⟩⟩
    exact if_pos (by omega)
  · refine ⟨show w.heap.size ≤ k24 by omega, ⟨k24, rfl, (hb24.ch0 C24).ch G36 (nin1' (by omega)), ?_⟩⟩
    exact if_pos (by omega)
  · refine ⟨show w.heap.size ≤ k25 by omega, ⟨k25, rfl, (hb25.ch0 C25).ch G36 (nin1' (by omega)), ?_⟩⟩
    exact if_pos (by omega)
  · refine ⟨show w.heap.size ≤ k26 by omega, ⟨k26, rfl, (hb26.ch0 C26).ch G36 (nin1' (by omega)), ?_⟩⟩
    exact if_pos (by omega)
  · refine ⟨show w.heap.size ≤ k27 by omega, ⟨k27, rfl, (hb27.ch0 C27).ch G36 (nin1' (by omega)), ?_⟩⟩
    exact if_pos (by omega)
  · refine ⟨show w.heap.size ≤ k28 by omega, ⟨k28, rfl, (hb28.ch0 C28).ch G36 (nin1' (by omega)), ?_⟩⟩
    exact if_pos (by omega)
  · refine ⟨show w.heap.size ≤ k29 by omega, ⟨k29, rfl, (hb29.ch0 C29).ch G36 (nin1' (by omega)), ?_⟩⟩
    exact if_pos (by omega)
end Go.Proofs.YtlnhecbgjjglfaaGreat
