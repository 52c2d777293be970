/- Contracts: disk.named; (*disk.Disk).Write into an empty disk. -/
import Derived.Test.YtfiplgplbjlpdaaGreatDoorDiskA
import Derived.Test.YtfiplgplbjlpdaaGreatDoorTrim
namespace Go.Proofs.YtfiplgplbjlpdaaGreatDoor
open Go.RowKit Go.Maps

/-- Is a text a file's name? -/
def isName (s : ByteArray) : Bool := decide (1 ≤ s.size) && decide (s.size ≤ 16) && allIn nameBytes s.data.toList

theorem text_ne (s : ByteArray) (h : 1 ≤ s.size) : ¬ s.toList = [] := by
  rw [ByteArray.toList_eq]
  intro h0
  have h1 : s.data.toList.length = s.size := by rw [Array.length_toList]; rfl
  rw [h0] at h1
  have h2 : 0 = s.size := h1
  omega
theorem toList_nil {r : ByteArray} (h : r = ⟨#[]⟩) : r.toList = [] := by rw [h, ByteArray.toList_eq]
theorem toList_ne {r : ByteArray} (h : ¬ r = ⟨#[]⟩) : ¬ r.toList = [] := by
  rw [ByteArray.toList_eq]
  intro h0
  exact h (WideShapes.bytes_inj (by simpa using h0))

set_option maxRecDepth 100000 in
set_option maxHeartbeats 1000000 in
theorem named_yes (w : World) (s : ByteArray) (h : isName s = true) : Calls Tryz.prog 85 #[.string s] w fun e w' => e = .returned (.bool true) ∧ Below w.heap.size w w' := by
  unfold isName at h
  simp only [Bool.and_eq_true, decide_eq_true_eq] at h
  obtain ⟨⟨h1, h2⟩, h3⟩ := h
  have hne : ¬ s.toList = [] := text_ne s h1
  have hie : s.toList.isEmpty = false := by simpa using hne
  go_enter Tryz.func85, Tryz.ntmps85
  go_wp2_with (go_at_call 31; refine (trim_name _ s (by omega)).mono ?_; rintro e w1 ⟨⟨r, rfl, hr⟩, hb⟩; have hre : r.toList = [] := toList_nil (hr.2 h3); clear hr)
  go_ret
  exact ⟨by simp, hb⟩
end Go.Proofs.YtfiplgplbjlpdaaGreatDoor
