/- Contracts: an empty disk: New, lost, Down, Waiting, Read, Used. -/
import Derived.Test.YtfiplgplbjlpdaaGreatDoorCloneB
import Derived.Maps.OwnSet
import Derived.Maps.RangeWalk
namespace Go.Proofs.YtfiplgplbjlpdaaGreatDoor
open Go.RowKit Go.Maps

/-- How a map's element reads: as itself. -/
def heldR (v : Value) : Option (DataW Value × List MemPlace) := some (.held v, [])
theorem keyS : Keyed Tryz.prog 9 := string_keyed Tryz.underlying9
/-- Block b is a map from texts to values. -/
def TextMap (w : World) (b n : Nat) (D : DataW Value) : Prop := w.ownsMap Tryz.prog 9 heldR b n D

/-- A disk without files that nothing has happened to. -/
def Disk0 (w : World) (p mb : Nat) (room : Int) : Prop :=
  (∃ sb, w.heap[p]? = some (.cells #[.map (some mb), .map (some sb), .slice none 0 0, .int .i64 room, .int .i64 (-1), .bool false] 75 (0, 0))) ∧ TextMap w mb 0 (.map [])

theorem Disk0.below {w w' : World} {p mb : Nat} {room : Int} (h : Disk0 w p mb room) (hb : Below w.heap.size w w') : Disk0 w' p mb room := by
  obtain ⟨⟨sb, h1⟩, h2⟩ := h
  refine ⟨⟨sb, ?_⟩, ?_⟩
  · rw [hb.block p (lt_of h1)]; exact h1
  · obtain ⟨es, c, h3, h4⟩ := h2
    exact ⟨es, c, by rw [hb.block mb (lt_of h3)]; exact h3, h4⟩

set_option maxHeartbeats 1000000 in
theorem new_disk (w : World) (room : Int) : Calls Tryz.prog 10 #[.int .i64 room] w fun e w' => ∃ p mb, e = .returned (.pointer (some ⟨p, 0, none⟩)) ∧ w.heap.size ≤ p ∧ Disk0 w' p mb room ∧ Below w.heap.size w w' := by
  have hmm := @run_makeMap Tryz.prog
  go_enter Tryz.func10, Tryz.ntmps10
  go_wp2
  go_ret
  refine ⟨_, w.heap.size, rfl, by omega, ⟨⟨w.heap.size + 1, ?_⟩, ?_⟩, (((Below.refl _ w).alloc (Nat.le_refl _) _).alloc (by simp) _).alloc (by simp; omega) _⟩
  · have := heap_alloc_new ((w.alloc (.map #[] 0)).alloc (.map #[] 0)) (.cells #[.map (some w.heap.size), .map (some (w.heap.size + 1)), .slice none 0 0, .int .i64 room, .int .i64 (-1), .bool false] 75)
    simpa using this
  · exact ((World.ownsMap_made w Tryz.prog 9 heldR).alloc _).alloc _

theorem zeroBytes (w : World) : (zeroValue 23).run Tryz.prog w = .ok (.slice none 0 0) w := by kernel_rfl

/-- The six fields of such a disk. -/
theorem Disk0.cells {w : World} {p mb : Nat} {room : Int} (h : Disk0 w p mb room) : w.cell? ⟨p, 0, none⟩ = some (.map (some mb)) ∧ w.cell? ⟨p, 2, none⟩ = some (.slice none 0 0) ∧
    w.cell? ⟨p, 3, none⟩ = some (.int .i64 room) ∧ w.cell? ⟨p, 4, none⟩ = some (.int .i64 (-1)) ∧ w.cell? ⟨p, 5, none⟩ = some (.bool false) := by
  obtain ⟨⟨sb, h1⟩, _⟩ := h
  refine ⟨(cells_of h1 0).trans rfl, (cells_of h1 2).trans rfl, (cells_of h1 3).trans rfl, (cells_of h1 4).trans rfl, (cells_of h1 5).trans rfl⟩

theorem lost_0 (w : World) (p mb : Nat) (room : Int) (h : Disk0 w p mb room) : Calls Tryz.prog 62 #[.pointer (some ⟨p, 0, none⟩)] w fun e w' => e = .returned (.bool false) ∧ w' = w := by
  obtain ⟨c0, c2, c3, c4, c5⟩ := h.cells
  go_enter Tryz.func62, Tryz.ntmps62
  go_wp2
  go_ret
  exact ⟨rfl, rfl⟩
theorem down_0 (w : World) (p mb : Nat) (room : Int) (h : Disk0 w p mb room) : Calls Tryz.prog 25 #[.pointer (some ⟨p, 0, none⟩)] w fun e w' => e = .returned (.bool false) ∧ w' = w := by
  go_enter Tryz.func25, Tryz.ntmps25
  go_wp2_with (go_at_call 62; refine (lost_0 _ p mb room h).mono ?_; rintro e w1 ⟨rfl, rfl⟩)
  go_ret
  exact ⟨rfl, rfl⟩
theorem waiting_0 (w : World) (p mb : Nat) (room : Int) (h : Disk0 w p mb room) : Calls Tryz.prog 82 #[.pointer (some ⟨p, 0, none⟩)] w fun e w' => e = .returned (.int .i64 0) ∧ w' = w := by
  obtain ⟨c0, c2, c3, c4, c5⟩ := h.cells
  go_enter Tryz.func82, Tryz.ntmps82
  go_wp2
  go_ret
  exact ⟨rfl, rfl⟩
theorem burn_0 (w : World) (p mb : Nat) (room : Int) (h : Disk0 w p mb room) : Calls Tryz.prog 89 #[.pointer (some ⟨p, 0, none⟩)] w fun e w' => e = .returned (.bool true) ∧ w' = w := by
  obtain ⟨c0, c2, c3, c4, c5⟩ := h.cells
  go_enter Tryz.func89, Tryz.ntmps89
  go_wp2
  go_ret
  exact ⟨rfl, rfl⟩

set_option maxHeartbeats 1000000 in
theorem read_0 (w : World) (p mb : Nat) (room : Int) (s : ByteArray) (hs : s.size ≤ maxLen) (h : Disk0 w p mb room) :
    Calls Tryz.prog 34 #[.pointer (some ⟨p, 0, none⟩), .string s] w fun e w' => e = .returned (.tuple #[.slice none 0 0, .int .i64 8]) ∧ w' = w := by
  obtain ⟨c0, c2, c3, c4, c5⟩ := h.cells
  have hkey : keyOf Tryz.prog 9 (.string s) = some (.string s.data.toList) := Go.WideMaps.keyOf_string_mk Tryz.underlying9 hs
  obtain ⟨v, ps, hrun, hv⟩ := World.ownsMap.look_ok h.2 keyS Tryz.underlying72 (zeroBytes _) (R := heldR) rfl hkey
  obtain rfl : v = .slice none 0 0 := by simpa [heldR, DataW.atKey] using congrArg (Option.map Prod.fst) hv
  simp [Maps.has] at hrun
  go_enter Tryz.func34, Tryz.ntmps34
  go_wp2_with (go_at_call 62; refine (lost_0 _ p mb room h).mono ?_; rintro e w1 ⟨rfl, rfl⟩)
  refine bodyPost_ret (results_tmp2 rfl _ _ _) rfl ?_
  exact ⟨rfl, rfl⟩

set_option maxHeartbeats 1000000 in
theorem used_0 (w : World) (p mb : Nat) (room : Int) (h : Disk0 w p mb room) : Calls Tryz.prog 29 #[.pointer (some ⟨p, 0, none⟩)] w fun e w' => e = .returned (.int .i64 0) ∧ Below w.heap.size w w' := by
  obtain ⟨c0, c2, c3, c4, c5⟩ := h.cells
  go_enter Tryz.func29, Tryz.ntmps29
  go_wp2_with (at_range; refine wpList_range_own _ rfl _ 72 rfl 9 23 keyS Tryz.underlying72 heldR mb 0 (.map []) rfl h.2 ?_; intro w0 hrg hg0 hs0)
  go_frame
  go_loopw [2, 4] (fun n _ wr => n = .int .i64 0 ∧ wr = w0) (fun _ _ _ => 0)
  case atStart => exact ⟨rfl, rfl⟩
  case round =>
    obtain ⟨rfl, rfl⟩ := hrel
    go_wp2_with (at_next; refine wpList_next_ranges _ rfl _ rfl 9 keyS heldR (α := Value) (β := Value) id id (fun k _ _ => ⟨k, rfl⟩) (fun v _ _ => ⟨v, rfl⟩) mb w.heap.size 0 (.map []) _ _ rfl hrg ?_ ?_)
    · intro _ _
      go_wp2
      go_ret
      exact ⟨rfl, (Below.refl _ w).grown hg0 (Nat.le_refl _) (by simp)⟩
    · intro x c kl y ps w' cnt' _ hl
      simp [Maps.has] at hl
end Go.Proofs.YtfiplgplbjlpdaaGreatDoor
