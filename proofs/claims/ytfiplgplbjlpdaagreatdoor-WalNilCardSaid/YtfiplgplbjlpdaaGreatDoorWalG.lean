/- Contract: (*wal.Log).gather on a disk without files. -/
import Derived.Test.YtfiplgplbjlpdaaGreatDoorWalO
namespace Go.Proofs.YtfiplgplbjlpdaaGreatDoor
open Go.RowKit Go.Maps

set_option maxRecDepth 100000 in
set_option maxHeartbeats 2000000 in
theorem gather_0 (w : World) (L p mb : Nat) (room : Int) (name : ByteArray) (h : Log0 w L p name) (hD : Disk0 w p mb room)
    (hsort : ∀ W, Calls Tryz.prog 77 #[.slice none 0 0, .func (.func 78) #[] #[]] W fun e w' => e = .returned (.tuple #[]) ∧ Below W.heap.size W w') :
    Calls Tryz.prog 37 #[.pointer (some ⟨L, 0, none⟩)] w fun e w' => e = .returned (.tuple #[]) ∧ Below w.heap.size w w' := by
  have hmm := @run_makeMap Tryz.prog
  have hB1 : Below w.heap.size w (w.alloc (.map #[] 0)) := (Below.refl _ w).alloc (Nat.le_refl _) _
  obtain ⟨c0, c1, c2, c3, c4, c5, c6⟩ := (h.below hB1).cells
  go_enter Tryz.func37, Tryz.ntmps37
  go_wp2_with (first
    | (go_at_call 73; refine (list_0 _ p mb room (hD.below hB1)).mono ?_; rintro e w1 ⟨rfl, hb1⟩; have hB2 := hB1.trans (hb1.mono hB1.size)))
  clear c0 c1 c2 c3 c4 c5 c6 hb1 hB1
  refine wp_loop_once ?_
  go_wp2_with (first
    | (go_at_call 77; refine (hsort _).mono ?_; rintro e w2 ⟨rfl, hb2⟩; have hB3 := hB2.trans (hb2.mono hB2.size); clear hb2; obtain ⟨c0, c1, c2, c3, c4, c5, c6⟩ := (h.below hB3).cells))
  refine wp_loop_once ?_
  go_wp2_with (go_at_call 73; refine (list_0 _ p mb room (hD.below hB3)).mono ?_; rintro e w3 ⟨rfl, hb3⟩; have hB4 := hB3.trans (hb3.mono hB3.size); clear hb3 c0 c1 c2 c3 c4 c5 c6; obtain ⟨c0, c1, c2, c3, c4, c5, c6⟩ := (h.below hB4).cells)
  refine wp_loop_once ?_
  go_wp2_with (go_at_call 82; refine (waiting_0 _ p mb room (hD.below hB4)).mono ?_; rintro e w4 ⟨rfl, rfl⟩)
  go_end0
  exact ⟨rfl, hB4⟩
end Go.Proofs.YtfiplgplbjlpdaaGreatDoor
