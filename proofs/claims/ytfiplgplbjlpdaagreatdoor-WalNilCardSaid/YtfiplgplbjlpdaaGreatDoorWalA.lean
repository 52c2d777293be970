/- Contracts: the wal's small functions; a log that is none. -/
import Derived.Test.YtfiplgplbjlpdaaGreatDoorDiskX
import Derived.Laws.ResultCell
import Derived.Test.YtfiplgplbjlpdaaGreatDoorDefer
namespace Go.Proofs.YtfiplgplbjlpdaaGreatDoor
open Go.RowKit Go.Maps

theorem must_ok (w : World) : Calls Tryz.prog 42 #[.int .i64 0] w fun e w' => e = .returned (.tuple #[]) ∧ w' = w := by
  go_enter Tryz.func42, Tryz.ntmps42
  go_wp2
  go_end0
  exact ⟨rfl, rfl⟩

theorem dead_nil (w : World) : Calls Tryz.prog 38 #[.pointer none] w fun e w' => e = .returned (.bool true) ∧ w' = w := by
  go_enter Tryz.func38, Tryz.ntmps38
  go_wp2
  go_ret
  exact ⟨rfl, rfl⟩
theorem first_nil (w : World) : Calls Tryz.prog 12 #[.pointer none] w fun e w' => e = .returned (.int .u64 0) ∧ w' = w := by
  go_enter Tryz.func12, Tryz.ntmps12
  go_wp2
  go_ret
  exact ⟨rfl, rfl⟩
theorem next_nil (w : World) : Calls Tryz.prog 13 #[.pointer none] w fun e w' => e = .returned (.int .u64 0) ∧ w' = w := by
  go_enter Tryz.func13, Tryz.ntmps13
  go_wp2
  go_ret
  exact ⟨rfl, rfl⟩
theorem get_nil (w : World) (n : Nat) : Calls Tryz.prog 8 #[.pointer none, .int .u64 (n : Int)] w fun e w' => e = .returned (.tuple #[.slice none 0 0, .int .i64 9]) ∧ w' = w := by
  go_enter Tryz.func8, Tryz.ntmps8
  go_wp2_with (first
    | (go_at_call 12; refine (first_nil _).mono ?_; rintro e w1 ⟨rfl, rfl⟩)
    | (go_at_call 13; refine (next_nil _).mono ?_; rintro e w1 ⟨rfl, rfl⟩))
  all_goals
    refine bodyPost_ret (results_tmp2 rfl _ _ _) rfl ?_
    exact ⟨rfl, rfl⟩
theorem sync_nil (w : World) : Calls Tryz.prog 15 #[.pointer none] w fun e w' => e = .returned (.int .i64 6) ∧ Below w.heap.size w w' := by
  go_enter_defers Tryz.func15, Tryz.ntmps15
  go_wp2_with (go_at_call 38; refine (dead_nil _).mono ?_; rintro e w1 ⟨rfl, rfl⟩)
  have hB := ((Below.refl w.heap.size w).alloc (Nat.le_refl _) (.cells #[.pointer none] 25)).alloc (by simp) (.cells #[.int .i64 6] 26)
  simp [bodyPostD, Leaves, results, Tryz.results15, go_sem]
  exact hB
theorem append_nil (w : World) (v : Value) : Calls Tryz.prog 14 #[.pointer none, v] w fun e w' => e = .returned (.int .i64 6) ∧ Below w.heap.size w w' := by
  go_enter_defers Tryz.func14, Tryz.ntmps14
  go_wp2_with (go_at_call 38; refine (dead_nil _).mono ?_; rintro e w1 ⟨rfl, rfl⟩)
  have hB := ((Below.refl w.heap.size w).alloc (Nat.le_refl _) (.cells #[.pointer none] 25)).alloc (by simp) (.cells #[.int .i64 6] 26)
  simp [bodyPostD, Leaves, results, Tryz.results14, go_sem]
  exact hB
theorem cut_nil (w : World) (n : Nat) : Calls Tryz.prog 16 #[.pointer none, .int .u64 (n : Int)] w fun e w' => e = .returned (.int .i64 6) ∧ Below w.heap.size w w' := by
  go_enter_defers Tryz.func16, Tryz.ntmps16
  go_wp2_with (go_at_call 38; refine (dead_nil _).mono ?_; rintro e w1 ⟨rfl, rfl⟩)
  have hB := ((Below.refl w.heap.size w).alloc (Nat.le_refl _) (.cells #[.pointer none] 25)).alloc (by simp) (.cells #[.int .i64 6] 26)
  simp [bodyPostD, Leaves, results, Tryz.results16, go_sem]
  exact hB
theorem trim_nil (w : World) (n : Nat) : Calls Tryz.prog 17 #[.pointer none, .int .u64 (n : Int)] w fun e w' => e = .returned (.int .i64 6) ∧ Below w.heap.size w w' := by
  go_enter_defers Tryz.func17, Tryz.ntmps17
  go_wp2_with (go_at_call 38; refine (dead_nil _).mono ?_; rintro e w1 ⟨rfl, rfl⟩)
  have hB := ((Below.refl w.heap.size w).alloc (Nat.le_refl _) (.cells #[.pointer none] 25)).alloc (by simp) (.cells #[.int .i64 6] 26)
  simp [bodyPostD, Leaves, results, Tryz.results17, go_sem]
  exact hB

/-- A log without records on a disk. -/
def Log0 (w : World) (L p : Nat) (name : ByteArray) : Prop :=
  w.heap[L]? = some (.cells #[.pointer (some ⟨p, 0, none⟩), .string name, .int .u64 0, .slice none 0 0, .slice none 0 0, .int .i64 0, .bool false] 64 (0, 0))
theorem Log0.below {w w' : World} {L p : Nat} {name : ByteArray} (h : Log0 w L p name) (hb : Below w.heap.size w w') : Log0 w' L p name := by
  unfold Log0 at *
  rw [hb.block L (lt_of h)]; exact h
theorem Log0.cells {w : World} {L p : Nat} {name : ByteArray} (h : Log0 w L p name) : w.cell? ⟨L, 0, none⟩ = some (.pointer (some ⟨p, 0, none⟩)) ∧ w.cell? ⟨L, 1, none⟩ = some (.string name) ∧
    w.cell? ⟨L, 2, none⟩ = some (.int .u64 0) ∧ w.cell? ⟨L, 3, none⟩ = some (.slice none 0 0) ∧ w.cell? ⟨L, 4, none⟩ = some (.slice none 0 0) ∧ w.cell? ⟨L, 5, none⟩ = some (.int .i64 0) ∧ w.cell? ⟨L, 6, none⟩ = some (.bool false) := by
  refine ⟨(cells_of h 0).trans rfl, (cells_of h 1).trans rfl, (cells_of h 2).trans rfl, (cells_of h 3).trans rfl, (cells_of h 4).trans rfl, (cells_of h 5).trans rfl, (cells_of h 6).trans rfl⟩

theorem dead_0 (w : World) (L p : Nat) (name : ByteArray) (h : Log0 w L p name) : Calls Tryz.prog 38 #[.pointer (some ⟨L, 0, none⟩)] w fun e w' => e = .returned (.bool false) ∧ w' = w := by
  obtain ⟨c0, c1, c2, c3, c4, c5, c6⟩ := h.cells
  go_enter Tryz.func38, Tryz.ntmps38
  go_wp2
  go_ret
  exact ⟨rfl, rfl⟩
theorem head_0 (w : World) (L p : Nat) (name : ByteArray) (h : Log0 w L p name) (hn : name.size ≤ 4) : Calls Tryz.prog 35 #[.pointer (some ⟨L, 0, none⟩)] w fun e w' => (∃ s : ByteArray, e = .returned (.string s) ∧ s.size ≤ maxLen) ∧ w' = w := by
  obtain ⟨c0, c1, c2, c3, c4, c5, c6⟩ := h.cells
  go_enter Tryz.func35, Tryz.ntmps35
  go_wp2
  go_ret
  refine ⟨⟨_, rfl, ?_⟩, rfl⟩
  rw [ByteArray.size_append]
  have : (⟨#[46, 102, 105, 114, 115, 116]⟩ : ByteArray).size = 6 := rfl
  unfold maxLen; omega

theorem wcaught_idle (w : World) (p v : Value) :
    Calls Tryz.prog 33 #[p, .nilIface, v] w fun e w' => e = .returned (.tuple #[]) ∧ w = w' := by
  have hta : ∀ w : World, (Instr.typeAssert .nilIface 20 26 true).run Tryz.prog w = .ok (.tuple #[.int .i64 0, .bool false]) w := fun _ => by kernel_rfl
  go_enter Tryz.func33, Tryz.ntmps33
  go_wp2
  go_end0
  exact ⟨rfl, rfl⟩
end Go.Proofs.YtfiplgplbjlpdaaGreatDoor
