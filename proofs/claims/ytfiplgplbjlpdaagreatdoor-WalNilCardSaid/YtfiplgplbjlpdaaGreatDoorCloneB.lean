/- Contracts: slices.Clone at bytes: a new row that reads alike. -/
import Derived.Test.YtfiplgplbjlpdaaGreatDoorProg
import Derived.Test.YtfiplgplbjlpdaaGreatDoorBase
namespace Go.Proofs.YtfiplgplbjlpdaaGreatDoor
open Go.RowKit

theorem el_bytes : Elem Tryz.prog 23 5 1 1 := .of (by kernel_rfl) (by kernel_rfl) (by decide) (by decide)

/-- What clone's contract says. -/
def Cloned (w : World) (sz : Nat) (css : List (List Value)) (e : Ending) (w' : World) : Prop :=
  ∃ v, e = .returned v ∧ Row w' (fun b => w.heap.size ≤ b) sz v css ∧ Below w.heap.size w w'

set_option maxHeartbeats 400000 in
theorem clone_bytes (w : World) (S : Nat → Prop) (v : Value) (css : List (List Value)) (h : Row w S 1 v css) (hl : Few css.length) :
    Calls Tryz.prog 30 #[v] w (Cloned w 1 css) := by
  have hrow := Lib.hid h
  have hnil := fun (w : World) (a : Option Addr) (n c : Nat) => Lib.run_eql_slice_nil (P := Tryz.prog) w 23 5 a n c 0 0 Tryz.underlying23
  cases h with
  | nil =>
    go_enter Tryz.func30, Tryz.ntmps30
    go_wp2
    go_ret
    exact ⟨_, rfl, .nil, .refl _ _⟩
  | mk b o cap _ hS hb hcap hmax hc =>
    unfold maxLen at hmax
    clear hc
    go_enter Tryz.func30, Tryz.ntmps30
    go_wp2_with (at_builtin; refine wpList_append_row (.tmp 5) (.tmp 6) (.slice (some ⟨w.heap.size, 0, none⟩) 0 0) _ el_bytes rfl rfl rfl rfl (Own.lit0 _ _ (Nat.le_refl _)) (hrow.out.alloc _) (by simpa using hl) (by simp) ?_; intro v1 w1 ho1 hb1 _ _)
    have hv := ho1.row
    go_ret
    exact ⟨_, rfl, hv, ((Below.refl _ _).alloc (Nat.le_refl _) _).trans hb1⟩
end Go.Proofs.YtfiplgplbjlpdaaGreatDoor
