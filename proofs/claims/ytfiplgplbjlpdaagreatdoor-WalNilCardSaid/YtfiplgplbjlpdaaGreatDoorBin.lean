/- Contracts: bits.Len64; bin.add, Num: the bytes of numbers. -/
import Derived.Test.YtfiplgplbjlpdaaGreatDoorCloneB
import Derived.Test.YtfiplgplbjlpdaaGreatDoorLen
import Derived.Outline
namespace Go.Proofs.YtfiplgplbjlpdaaGreatDoor
open Go.RowKit

theorem len64_u (n : Nat) (w : World) (h : U64 n) : Calls Tryz.prog 114 #[.int .u64 (n : Int)] w fun e w' => e = .returned (.int .i64 (Lib.bitLen n)) ∧ w = w' := by
  unfold U64 at h
  exact (len64 (n : Int) w (by omega) (by omega)).mono fun e w' ⟨he, hw⟩ => ⟨by simpa using he, hw⟩
/-- A number's k lowest bytes, the highest first. -/
def be : Nat → Nat → List UInt8
  | 0, _ => []
  | k + 1, n => UInt8.ofNat (n / 256 ^ k) :: be k n
/-- How many bytes a number has. -/
def blen (n : Nat) : Nat := (Lib.bitLen n + 7) / 8
/-- bin.Num. -/
def numB (n : Nat) : List UInt8 := UInt8.ofNat (blen n) :: be (blen n) n
/-- bin.Raw. -/
def rawB (b : List UInt8) : List UInt8 := numB b.length ++ b
/-- Bytes as cells. -/
def bcells (l : List UInt8) : List (List Value) := l.map fun (x : UInt8) => [.int .u8 (x.toNat : Int)]

theorem bitLen_le (n : Nat) : Lib.bitLen n ≤ 64 := by
  unfold Lib.bitLen
  have : ∀ f x, Lib.bitLenAux f x ≤ f := by
    intro f
    induction f with
    | zero => intro x; simp [Lib.bitLenAux]
    | succ f ih => intro x; simp only [Lib.bitLenAux]; split; omega; have := ih (x / 2); omega
  exact this 64 n
theorem be_byte (n j : Nat) (h : 1 ≤ j) : (((UInt8.ofNat (n / 256 ^ (j - 1))).toNat : Nat) : Int) = (n : Int) / 2 ^ (8 * j - 8) % 256 := by
  rw [show 8 * j - 8 = 8 * (j - 1) from by omega, show (2 : Int) ^ (8 * (j - 1)) = ((2 ^ (8 * (j - 1)) : Nat) : Int) from by simp, Nat.pow_mul, UInt8.toNat_ofNat']
  simp
set_option maxHeartbeats 1000000 in
theorem add_any (w : World) (base : Nat) (v : Value) (l : List UInt8) (n : Nat) (hn : U64 n) (hown : Own w base 5 1 v (bcells l)) (hf : Few (l.length + 9)) (hb : base ≤ w.heap.size) :
    Calls Tryz.prog 88 #[v, .int .u64 (n : Int)] w fun e w' => ∃ v', e = .returned v' ∧ Own w' base 5 1 v' (bcells (l ++ numB n)) ∧ Below base w w' := by
  have hbl := bitLen_le n
  have hmk : ((Lib.bitLen n : Int) + 7) / 8 = (blen n : Int) := by unfold blen; omega
  have hk8 : blen n ≤ 8 := by unfold blen; omega
  go_enter Tryz.func88, Tryz.ntmps88
  go_wp2_with (first
    | (go_at_call 114; refine (len64_u _ _ hn).mono ?_; rintro e w' ⟨rfl, rfl⟩; generalize Lib.bitLen n = m at *; generalize hk : blen n = k at hmk hk8)
    | (at_builtin; refine wpList_append_row (.tmp 11) (.tmp 14) v (.slice (some ⟨w.heap.size, 0, none⟩) 1 1) el_bytes rfl rfl rfl rfl (hown.alloc _) (Row.one (fun _ => True) trivial _ _ rfl) (hf.le (by simp [bcells])) (by simp; omega) ?_; intro v1 w1 ho1 hb1 _ _))
  have hk' := Lib.hid hk; clear hk hmk
  go_loopw [0, 6] (fun v i wr => ∃ (j : Nat) (D : List UInt8), j ≤ k ∧ i = .int .i64 (8 * (j : Int) - 8) ∧ Own wr base 5 1 v (bcells (l ++ UInt8.ofNat k :: D)) ∧ Hid (be k n = D ++ be j n) ∧ D.length = k - j ∧ Below base w wr) (fun _ i _ => (intOf i + 8).toNat)
  case atStart => exact ⟨k, [], Nat.le_refl _, rfl, by simpa [bcells, Nat.mod_eq_of_lt (show k < 256 by omega)] using ho1, by simp [Hid], by simp, ((Below.refl _ _).alloc hb _).trans hb1⟩
  case round =>
    obtain ⟨j, D, hj, rfl, ho, hD, hDl, hB⟩ := hrel
    have hbs := hB.size
    by_cases hz : 1 ≤ j
    · have hfe : Few ((bcells (l ++ UInt8.ofNat k :: D)).length + 1) := hf.le (by simp [bcells]; omega)
      have hbe : base ≤ wr.heap.size + 1 := by omega
      have hj1 : n / 2 ^ (8 * j - 8) % 256 < 256 := Nat.mod_lt _ (by decide)
      go_wp2_with (at_builtin; go_loud (refine wpList_append_row (.tmp 23) (.tmp 28) u0 (.slice (some ⟨wr.heap.size, 0, none⟩) 1 1) el_bytes rfl rfl rfl rfl (ho.alloc _) (Row.one (fun _ => True) trivial _ _ rfl) hfe (by simpa using hbe) ?_); intro v2 w2 ho2 hb2 _ _)
      go_roundw
      case rel =>
        refine ⟨j - 1, D ++ [UInt8.ofNat (n / 256 ^ (j - 1))], by omega, by rw [show ((j - 1 : Nat) : Int) = (j : Int) - 1 from by omega]; go_num, ?_, ?_, by simp; omega, hB.trans (((Below.refl _ _).alloc (by omega) _).trans hb2)⟩
        · have := be_byte n j hz
          simpa [bcells, ← this] using ho2
        · refine hD.out.trans ?_
          obtain ⟨j, rfl⟩ : ∃ i, j = i + 1 := ⟨j - 1, by omega⟩
          simp [be]
      case measure => simp [intOf]; omega
    · obtain rfl : j = 0 := by omega
      go_wp2
      go_ret
      refine ⟨_, rfl, ?_, hB⟩
      have := hD.out
      simp only [be, List.append_nil] at this
      rw [numB, hk'.out, this]; exact ho

theorem num_any (w : World) (n : Nat) (hn : U64 n) :
    Calls Tryz.prog 45 #[.int .u64 (n : Int)] w fun e w' => ∃ v', e = .returned v' ∧ Own w' w.heap.size 5 1 v' (bcells (numB n)) ∧ Below w.heap.size w w' := by
  go_enter Tryz.func45, Tryz.ntmps45
  go_wp2_with (go_at_call 88; refine (add_any _ w.heap.size _ [] n hn (Own.nil ..) (by simp [Few]) (Nat.le_refl _)).mono ?_; rintro e w' ⟨v', rfl, h1, h2⟩)
  go_ret
  exact ⟨_, rfl, h1, h2⟩

end Go.Proofs.YtfiplgplbjlpdaaGreatDoor
