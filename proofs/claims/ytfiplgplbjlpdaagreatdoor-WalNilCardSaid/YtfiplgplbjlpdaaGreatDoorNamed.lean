/- Contract: tabellionref09.Named: is a text a log's name? -/
import Derived.Test.YtfiplgplbjlpdaaGreatDoorWalP
namespace Go.Proofs.YtfiplgplbjlpdaaGreatDoor
open Go.RowKit

theorem letter_iff (b : UInt8) : letters.contains b = (decide (97 ≤ b.toNat) && decide (b.toNat ≤ 122)) := by
  have h : (List.range 256).all (fun n => letters.contains (UInt8.ofNat n) == (decide (97 ≤ n) && decide (n ≤ 122))) = true := by kernel_rfl
  have := List.all_eq_true.1 h b.toNat (List.mem_range.2 b.toNat_lt)
  rw [UInt8.ofNat_toNat] at this
  exact eq_of_beq this
theorem not_log (s : ByteArray) (k : Nat) (hk : k < s.size) (hb : ¬ (97 ≤ (s[k]).toNat ∧ (s[k]).toNat ≤ 122)) : isLog s = false := by
  have hm : s[k] ∈ s.data.toList := by
    rw [Array.mem_toList_iff]
    exact Array.getElem_mem (xs := s.data) hk
  have : allIn letters s.data.toList = false := by
    rw [Bool.eq_false_iff]
    intro h
    have := List.all_eq_true.1 h _ hm
    rw [letter_iff] at this
    simp only [Bool.and_eq_true, decide_eq_true_eq] at this
    exact hb this
  simp [isLog, this]
theorem all_step (s : ByteArray) (k : Nat) (hk : k < s.size) (h : allIn letters (s.data.toList.take k) = true) (hb : 97 ≤ (s[k]).toNat ∧ (s[k]).toNat ≤ 122) : allIn letters (s.data.toList.take (k + 1)) = true := by
  have hl : k < s.data.toList.length := by rw [Array.length_toList]; exact hk
  rw [List.take_succ_eq_append_getElem hl]
  unfold allIn at *
  rw [List.all_append, h]
  simp only [List.all_cons, List.all_nil, Bool.and_true, Bool.true_and]
  rw [letter_iff]
  simp only [Bool.and_eq_true, decide_eq_true_eq]
  exact hb

set_option maxHeartbeats 1000000 in
theorem named_law (w : World) (s : ByteArray) (hs : s.size ≤ maxLen) : Calls Tryz.prog 11 #[.string s] w fun e w' => e = .returned (.bool (isLog s)) ∧ w' = w := by
  unfold maxLen at hs
  go_enter Tryz.func11, Tryz.ntmps11
  go_wp2
  go_loopw [3] (fun i wr => ∃ k : Nat, k ≤ s.size ∧ i = .int .i64 (k : Int) ∧ allIn letters (s.data.toList.take k) = true ∧ wr = w) (fun i _ => ((s.size : Int) - intOf i).toNat)
  case atStart => exact ⟨0, by omega, rfl, rfl, rfl⟩
  case round =>
    obtain ⟨k, hk, rfl, hall, rfl⟩ := hrel
    by_cases hlt : k < s.size
    · go_wp2
      · go_ret
        exact ⟨congrArg (fun b => Ending.returned (.bool b)) (not_log s k hlt (by omega)).symm, rfl⟩
      · go_roundw
        case rel => exact ⟨k + 1, by omega, by simp, all_step s k hlt hall (by omega), trivial⟩
        case measure => simp [intOf]; omega
      · go_ret
        exact ⟨congrArg (fun b => Ending.returned (.bool b)) (not_log s k hlt (by omega)).symm, rfl⟩
    · have hall2 : allIn letters s.data.toList = true := by
        rw [List.take_of_length_le (by rw [Array.length_toList]; exact Nat.le_of_not_lt hlt)] at hall
        exact hall
      go_wp2
      · go_ret
        refine ⟨congrArg (fun b => Ending.returned (.bool b)) ?_, rfl⟩
        have h1 : 1 ≤ s.size := by omega
        have h4 : ((s.size : Int) ≤ 4) ↔ s.size ≤ 4 := by omega
        simp [isLog, hall2, h1, h4]
      · go_ret
        refine ⟨congrArg (fun b => Ending.returned (.bool b)) ?_, rfl⟩
        have h1 : ¬ 1 ≤ s.size := by omega
        simp [isLog, h1]
end Go.Proofs.YtfiplgplbjlpdaaGreatDoor
