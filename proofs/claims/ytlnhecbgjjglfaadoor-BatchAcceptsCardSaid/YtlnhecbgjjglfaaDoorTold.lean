/- Told: what an error of Accept's tells. -/
import Derived.Test.YtlnhecbgjjglfaaDoorAsE
import Derived.Test.YtlnhecbgjjglfaaDoorFr
import Derived.OwnWalk
import Derived.RegionTactic
set_option linter.unusedVariables false
set_option linter.unusedSimpArgs false
namespace Go.Proofs.YtlnhecbgjjglfaaDoor
open Go.RowKit Go.Extern.Stop Go.Stop Go.Extern
theorem Tryd.isB (v : Value) (w : World) : (Instr.typeAssert (.iface 46 v) 27 46 true).run Tryd.prog w = .ok (.tuple #[v, .bool true]) w := by kernel_rfl
theorem Tryd.isT (v : Value) (w : World) : (Instr.typeAssert (.iface 51 v) 27 51 true).run Tryd.prog w = .ok (.tuple #[v, .bool true]) w := by kernel_rfl
theorem Tryd.noB (v : Value) (w : World) : (Instr.typeAssert (.iface 51 v) 27 46 true).run Tryd.prog w = .ok (.tuple #[.pointer none, .bool false]) w := by kernel_rfl
theorem told_nil (w : World) : Calls Tryd.prog 7 #[.nilIface] w fun e w' => e = .returned (.tuple #[.bool false, .int .i64 0, .int .i64 0]) ∧ w' = w := by
  go_enter Tryd.func7, Tryd.ntmps7
  go_wp2
  go_ret3
  exact ⟨rfl, rfl⟩
set_option maxRecDepth 100000 in
set_option maxHeartbeats 8000000 in
theorem told_byte (k : Nat) (at_ n : Int) (w : World) (hg : w.cell? ⟨0, 0, none⟩ = some (.iface 114 (.agg #[.pointer (some ⟨1, 27, none⟩)]))) (c0 : w.cell? ⟨k, 0, none⟩ = some (.int .i64 at_)) (c1 : w.cell? ⟨k, 1, none⟩ = some (.iface 43 (.int .i64 n))) :
    Calls Tryd.prog 7 #[.iface 46 (.pointer (some ⟨k, 0, none⟩))] w fun e w' => e = .returned (.tuple #[.bool true, .int .i64 at_, .int .i64 n]) ∧ Pl.Chg Pl.Nil w w' := by
  have a1 := Tryd.isB
  have lt : ∀ {a : Addr} {v : Value}, w.cell? a = some v → a.block < w.heap.size := fun {a v} h => by
    rcases Nat.lt_or_ge a.block w.heap.size with h1 | h1
    · exact h1
    · simp [World.cell?, Array.getElem?_eq_none h1] at h
  have hgA : (w.alloc (.cells #[.int .i64 0] 43)).cell? ⟨0, 0, none⟩ = some (.iface 114 (.agg #[.pointer (some ⟨1, 27, none⟩)])) := by
    rw [World.cell?_alloc_lt _ _ ⟨0, 0, none⟩ (lt hg)]; exact hg
  have htA : (w.alloc (.cells #[.int .i64 0] 43)).cell? ⟨w.heap.size, 0, none⟩ = some (.int .i64 0) := by simp
  have hfA : (w.alloc (.cells #[.int .i64 0] 43)).frozen? ⟨w.heap.size, 0, none⟩ = false := by simp
  have c1A : (w.alloc (.cells #[.int .i64 0] 43)).cell? ⟨k, 1, none⟩ = some (.iface 43 (.int .i64 n)) := by rw [World.cell?_alloc_lt _ _ ⟨k, 1, none⟩ (lt c1)]; exact c1
  have hk : ∀ o1 o2 o3 o4 o5, (((((w.alloc o1).alloc o2).alloc o3).alloc o4).alloc o5).cell? ⟨k, 0, none⟩ = some (.int .i64 at_) := fun o1 o2 o3 o4 o5 => by
    have h := lt c0
    rw [World.cell?_alloc_lt _ _ ⟨k, 0, none⟩ (by simp; dsimp only at h; omega), World.cell?_alloc_lt _ _ ⟨k, 0, none⟩ (by simp; dsimp only at h; omega), World.cell?_alloc_lt _ _ ⟨k, 0, none⟩ (by simp; dsimp only at h; omega), World.cell?_alloc_lt _ _ ⟨k, 0, none⟩ (by simp; dsimp only at h; omega), World.cell?_alloc_lt _ _ ⟨k, 0, none⟩ h]
    exact c0
  have he : ∀ o2 o3 o4 o5, (((((w.alloc (.cells #[.int .i64 n] 43)).alloc o2).alloc o3).alloc o4).alloc o5).cell? ⟨w.heap.size, 0, none⟩ = some (.int .i64 n) := fun o2 o3 o4 o5 => by
    rw [World.cell?_alloc_lt _ _ ⟨w.heap.size, 0, none⟩ (by simp; omega), World.cell?_alloc_lt _ _ ⟨w.heap.size, 0, none⟩ (by simp; omega), World.cell?_alloc_lt _ _ ⟨w.heap.size, 0, none⟩ (by simp; omega), World.cell?_alloc_lt _ _ ⟨w.heap.size, 0, none⟩ (by simp)]
    simp
  go_enter Tryd.func7, Tryd.ntmps7
  go_wp2_with (first | (go_at_call 15; refine (as_hit n _ (.int .i64 0) _ hgA htA hfA).mono ?_; rintro e w' ⟨rfl, rfl⟩))
  go_region
  all_goals (try go_wp2)
  go_ret3
  have al : ∀ {a b : World} (o : Obj), Pl.Chg Pl.Nil a b → Pl.Chg Pl.Nil a (b.alloc o) := fun o h => h.step (Pl.Chg.alloc Pl.Nil _ o) fun _ _ h => h
  exact ⟨rfl, (al _ (al _ (al _ (al _ (al _ (Pl.Chg.refl Pl.Nil w)))))).step (Pl.Chg.drew Pl.Nil _) fun _ _ h => h⟩
set_option maxRecDepth 100000 in
set_option maxHeartbeats 8000000 in
theorem told_tx (k : Nat) (at_ n : Int) (w : World) (hg : w.cell? ⟨0, 0, none⟩ = some (.iface 114 (.agg #[.pointer (some ⟨1, 27, none⟩)]))) (c0 : w.cell? ⟨k, 0, none⟩ = some (.int .i64 at_)) (c1 : w.cell? ⟨k, 1, none⟩ = some (.iface 43 (.int .i64 n))) :
    Calls Tryd.prog 7 #[.iface 51 (.pointer (some ⟨k, 0, none⟩))] w fun e w' => e = .returned (.tuple #[.bool false, .int .i64 at_, .int .i64 n]) ∧ Pl.Chg Pl.Nil w w' := by
  have a1 := Tryd.noB
  have a2 := Tryd.isT
  have lt : ∀ {a : Addr} {v : Value}, w.cell? a = some v → a.block < w.heap.size := fun {a v} h => by
    rcases Nat.lt_or_ge a.block w.heap.size with h1 | h1
    · exact h1
    · simp [World.cell?, Array.getElem?_eq_none h1] at h
  have hgA : (w.alloc (.cells #[.int .i64 0] 43)).cell? ⟨0, 0, none⟩ = some (.iface 114 (.agg #[.pointer (some ⟨1, 27, none⟩)])) := by
    rw [World.cell?_alloc_lt _ _ ⟨0, 0, none⟩ (lt hg)]; exact hg
  have htA : (w.alloc (.cells #[.int .i64 0] 43)).cell? ⟨w.heap.size, 0, none⟩ = some (.int .i64 0) := by simp
  have hfA : (w.alloc (.cells #[.int .i64 0] 43)).frozen? ⟨w.heap.size, 0, none⟩ = false := by simp
  have c1A : (w.alloc (.cells #[.int .i64 0] 43)).cell? ⟨k, 1, none⟩ = some (.iface 43 (.int .i64 n)) := by rw [World.cell?_alloc_lt _ _ ⟨k, 1, none⟩ (lt c1)]; exact c1
  have hk : ∀ o1 o2 o3 o4 o5, (((((w.alloc o1).alloc o2).alloc o3).alloc o4).alloc o5).cell? ⟨k, 0, none⟩ = some (.int .i64 at_) := fun o1 o2 o3 o4 o5 => by
    have h := lt c0
    rw [World.cell?_alloc_lt _ _ ⟨k, 0, none⟩ (by simp; dsimp only at h; omega), World.cell?_alloc_lt _ _ ⟨k, 0, none⟩ (by simp; dsimp only at h; omega), World.cell?_alloc_lt _ _ ⟨k, 0, none⟩ (by simp; dsimp only at h; omega), World.cell?_alloc_lt _ _ ⟨k, 0, none⟩ (by simp; dsimp only at h; omega), World.cell?_alloc_lt _ _ ⟨k, 0, none⟩ h]
    exact c0
  have he : ∀ o2 o3 o4 o5, (((((w.alloc (.cells #[.int .i64 n] 43)).alloc o2).alloc o3).alloc o4).alloc o5).cell? ⟨w.heap.size, 0, none⟩ = some (.int .i64 n) := fun o2 o3 o4 o5 => by
    rw [World.cell?_alloc_lt _ _ ⟨w.heap.size, 0, none⟩ (by simp; omega), World.cell?_alloc_lt _ _ ⟨w.heap.size, 0, none⟩ (by simp; omega), World.cell?_alloc_lt _ _ ⟨w.heap.size, 0, none⟩ (by simp; omega), World.cell?_alloc_lt _ _ ⟨w.heap.size, 0, none⟩ (by simp)]
    simp
  go_enter Tryd.func7, Tryd.ntmps7
  go_wp2_with (first | (go_at_call 15; refine (as_hit n _ (.int .i64 0) _ hgA htA hfA).mono ?_; rintro e w' ⟨rfl, rfl⟩))
  go_region
  all_goals (try go_wp2)
  go_ret3
  have al : ∀ {a b : World} (o : Obj), Pl.Chg Pl.Nil a b → Pl.Chg Pl.Nil a (b.alloc o) := fun o h => h.step (Pl.Chg.alloc Pl.Nil _ o) fun _ _ h => h
  exact ⟨rfl, (al _ (al _ (al _ (al _ (al _ (Pl.Chg.refl Pl.Nil w)))))).step (Pl.Chg.drew Pl.Nil _) fun _ _ h => h⟩
end Go.Proofs.YtlnhecbgjjglfaaDoor
