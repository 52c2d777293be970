/- Contract: crc.Join gives some number of 32 bits and turns nothing that was there. -/
import Derived.Test.YtfiplgplbjlpdaaGreatDoorCrc
namespace Go.Proofs.YtfiplgplbjlpdaaGreatDoor
open Go.RowKit

set_option maxHeartbeats 2000000 in
theorem join_any (w : World) (a b : Int) (n : Nat) (ha : U32 a) (hn : U64 n) :
    Calls Tryz.prog 83 #[.int .u32 a, .int .u32 b, .int .u64 (n : Int)] w fun e w' => ∃ x, e = .returned (.int .u32 x) ∧ U32 x ∧ Below w.heap.size w w' := by
  go_enter Tryz.func83, Tryz.ntmps83
  go_wp2_with (first
    | (go_at_call 110; refine (nibbles_any _).mono ?_; rintro e w1 ⟨ts, rfl, hts, hb1⟩)
    | (refine wpList_store_rowK rfl 150 (.tmp 7) (.tmp 13) rfl w1.heap.size ts rfl rfl 150 _ (heap_alloc_new _ _) (by rw [hts.1]; kernel_rfl) (by rw [hts.1]; rfl) hts.one ?_; intro w2 hh hk2))
  have hB : Below w.heap.size w (w2.alloc (.cells (Array.replicate 32 (.int .u32 0)) 153)) := by
    have h1 := hb1.size
    have h2 := Keeps.below (hb1.alloc h1 _) hk2 (fun b hb => by subst hb; exact h1) (by simp; omega)
    exact h2.alloc h2.size _
  have hT : (w2.alloc (.cells (Array.replicate 32 (.int .u32 0)) 153)).heap[w1.heap.size]? = some (.cells ts 150) := (heap_alloc_old _ _ (lt_of hh)).trans hh
  have hne : w1.heap.size ≠ w2.heap.size := by have := hk2.size; simp at this; omega
  have hle : w.heap.size ≤ w2.heap.size := by have := hk2.size; have := hb1.size; simp at *; omega
  have hG := heap_alloc_new w2 (.cells (Array.replicate 32 (.int .u32 0)) 153)
  generalize w1.heap.size = T at *
  generalize hGe : w2.heap.size = G at *
  go_loopw [14] (fun i wr => ∃ (k : Nat) (cs : Array Value), k ≤ 32 ∧ i = .int .i64 (k : Int) ∧ wr.heap[G]? = some (.cells cs 153) ∧ wr.heap[T]? = some (.cells ts 150) ∧ Words 32 cs ∧ Below w.heap.size w wr) (fun i _ => (32 - intOf i).toNat)
  case atStart => exact ⟨0, _, by omega, rfl, hG, hT, Words.zero 32, hB⟩
  case round =>
    obtain ⟨k, cs, hk, rfl, hgr, htr, hcs, hBr⟩ := hrel
    by_cases hlt : k < 32
    · obtain ⟨z, hz, hzc⟩ := hcs.2 k hlt
      have hcell := (cells_of hgr k).trans hzc
      have hf := frozen_of hgr k
      have hX : U32 ((2 : Int) ^ k % 4294967296) := ⟨by omega, by omega⟩
      obtain ⟨z1, hz1, hi0, hi1, hzc1⟩ := hts.at htr _ hX
      have hY : U32 (bits .xor .u32 ((2 : Int) ^ k % 4294967296 / 16) z1) := bits_u32 _ _ _
      generalize hYe : bits .xor .u32 ((2 : Int) ^ k % 4294967296 / 16) z1 = Y at hY
      obtain ⟨z2, hz2, hj0, hj1, hzc2⟩ := hts.at htr Y hY
      go_wp2
      go_roundw
      case rel => exact ⟨k + 1, _, by omega, by simp, set_of hgr _ _, (Below.heap_setCell _ _ _ _ hne).trans htr, hcs.set k (bits_u32 _ _ _), hBr.setCell (p := ⟨G, k, none⟩) hle _⟩
      case measure => simp [intOf]; omega
    · go_wp2
      go_loopw [0, 2] (fun a n wr => ∃ (x : Int) (m : Nat) (cs : Array Value), a = .int .u32 x ∧ U32 x ∧ n = .int .u64 (m : Int) ∧ U64 m ∧ wr.heap[G]? = some (.cells cs 153) ∧ Words 32 cs ∧ Below w.heap.size w wr) (fun _ n _ => (intOf n).toNat)
      case atStart => exact ⟨_, _, _, rfl, ha, rfl, hn, hgr, hcs, hBr⟩
      case round =>
        clear hG hT hB hh hgr htr hcs hBr hk2
        obtain ⟨x, m, cs, rfl, hx, rfl, hm, hgr, hcs, hBr⟩ := hrel
        have hs32 := hcs.1
        by_cases hm0 : m = 0
        · subst hm0
          go_wp2
          go_ret
          exact ⟨_, rfl, bits_u32 _ _ _, hBr⟩
        · have hm1 : 0 < m := by omega
          have hmu := Lib.hid hm
          clear hm
          by_cases hb : bits .and .u64 (m : Int) 1 = 1
          case pos =>
            have hb2 : (bits .and .u64 (m : Int) 1 == 1) = true := by simp [hb]
            go_wp2_with (go_at_call 111; refine (of_any _ G 153 cs _ hx hgr hcs).mono ?_; rintro e w3 ⟨x', rfl, hx', rfl⟩)
            have hGH : G < w3.heap.size := lt_of hgr
            have hle2 := hBr.size
            have hH := heap_alloc_new w3 (.cells (Array.replicate 32 (.int .u32 0)) 153)
            have hG2 := (heap_alloc_old w3 (.cells (Array.replicate 32 (.int .u32 0)) 153) hGH).trans hgr
            have hB2 := hBr.alloc hBr.size (.cells (Array.replicate 32 (.int .u32 0)) 153)
            generalize hHe : w3.heap.size = H at *
            go_loopw [45] (fun i wi => ∃ (k : Nat) (c2 : Array Value), k ≤ 32 ∧ i = .int .i64 (k : Int) ∧ wi.heap[H]? = some (.cells c2 153) ∧ wi.heap[G]? = some (.cells cs 153) ∧ Words 32 c2 ∧ Below w.heap.size w wi) (fun i _ => (32 - intOf i).toNat)
            case atStart => exact ⟨0, _, by omega, rfl, hH, hG2, Words.zero 32, hB2⟩
            case round =>
              clear hH hG2 hB2 hgr hBr hHe
              obtain ⟨k, c2, hk, rfl, hHi, hGi, hc2, hBi⟩ := hrel
              have h232 := hc2.1
              by_cases hlt : k < 32
              · obtain ⟨z, hz, hzc⟩ := hcs.2 k hlt
                have hcell := (cells_of hGi k).trans hzc
                obtain ⟨z2, hz2, hzc2⟩ := hc2.2 k hlt
                have hcell2 := (cells_of hHi k).trans hzc2
                have hf := frozen_of hHi k
                clear hzc hzc2
                go_wp2_with (go_at_call 111; refine (of_any _ G 153 cs _ hz hGi hcs).mono ?_; rintro e w5 ⟨x5, rfl, hx5, hw5⟩; subst hw5)
                go_roundw
                case rel => exact ⟨k + 1, _, by omega, by simp, set_of hHi _ _, (Below.heap_setCell _ _ _ _ (by simp; omega)).trans hGi, hc2.set k hx5, hBi.setCell (p := ⟨H, k, none⟩) (by simp; omega) _⟩
                case measure => simp [intOf]; omega
              · obtain rfl : k = 32 := by omega
                go_wp2_with (first
                  | (refine wpList_load_row rfl 153 (.tmp 11) rfl _ rfl 153 c2 (0, 0) _ hHi Tryz.underlying153 rfl (by rw [h232]; kernel_rfl) ?_)
                  | (refine wpList_store_rowK rfl 153 (.tmp 8) (.tmp 55) rfl G c2 rfl rfl 153 cs hGi (by rw [h232]; kernel_rfl) (by rw [h232, hs32]) hc2.one ?_; intro w6 hG6 hk6))
                have hB6 := Keeps.below hBi hk6 (fun b hb => by subst hb; exact hle) hBi.size
                go_roundw
                case rel => exact ⟨_, m / 2, _, rfl, hx', rfl, by have := hmu.out; unfold U64 at *; omega, hG6, hc2, hB6⟩
                case measure => simp [intOf]; omega
          case neg =>
            have hb2 : (bits .and .u64 (m : Int) 1 == 1) = false := by simp [hb]
            go_wp2_with (go_at_call 111; refine (of_any _ G 153 cs _ hx hgr hcs).mono ?_; rintro e w3 ⟨x', rfl, hx', rfl⟩)
            have hGH : G < wr.heap.size := lt_of hgr
            have hle2 := hBr.size
            have hH := heap_alloc_new wr (.cells (Array.replicate 32 (.int .u32 0)) 153)
            have hG2 := (heap_alloc_old wr (.cells (Array.replicate 32 (.int .u32 0)) 153) hGH).trans hgr
            have hB2 := hBr.alloc hBr.size (.cells (Array.replicate 32 (.int .u32 0)) 153)
            generalize hHe : wr.heap.size = H at *
            go_loopw [45] (fun i wi => ∃ (k : Nat) (c2 : Array Value), k ≤ 32 ∧ i = .int .i64 (k : Int) ∧ wi.heap[H]? = some (.cells c2 153) ∧ wi.heap[G]? = some (.cells cs 153) ∧ Words 32 c2 ∧ Below w.heap.size w wi) (fun i _ => (32 - intOf i).toNat)
            case atStart => exact ⟨0, _, by omega, rfl, hH, hG2, Words.zero 32, hB2⟩
            case round =>
              clear hH hG2 hB2 hgr hBr hHe
              obtain ⟨k, c2, hk, rfl, hHi, hGi, hc2, hBi⟩ := hrel
              have h232 := hc2.1
              by_cases hlt : k < 32
              · obtain ⟨z, hz, hzc⟩ := hcs.2 k hlt
                have hcell := (cells_of hGi k).trans hzc
                obtain ⟨z2, hz2, hzc2⟩ := hc2.2 k hlt
                have hcell2 := (cells_of hHi k).trans hzc2
                have hf := frozen_of hHi k
                clear hzc hzc2
                go_wp2_with (go_at_call 111; refine (of_any _ G 153 cs _ hz hGi hcs).mono ?_; rintro e w5 ⟨x5, rfl, hx5, hw5⟩; subst hw5)
                go_roundw
                case rel => exact ⟨k + 1, _, by omega, by simp, set_of hHi _ _, (Below.heap_setCell _ _ _ _ (by simp; omega)).trans hGi, hc2.set k hx5, hBi.setCell (p := ⟨H, k, none⟩) (by simp; omega) _⟩
                case measure => simp [intOf]; omega
              · obtain rfl : k = 32 := by omega
                go_wp2_with (first
                  | (refine wpList_load_row rfl 153 (.tmp 11) rfl _ rfl 153 c2 (0, 0) _ hHi Tryz.underlying153 rfl (by rw [h232]; kernel_rfl) ?_)
                  | (refine wpList_store_rowK rfl 153 (.tmp 8) (.tmp 55) rfl G c2 rfl rfl 153 cs hGi (by rw [h232]; kernel_rfl) (by rw [h232, hs32]) hc2.one ?_; intro w6 hG6 hk6))
                have hB6 := Keeps.below hBi hk6 (fun b hb => by subst hb; exact hle) hBi.size
                go_roundw
                case rel => exact ⟨_, m / 2, _, rfl, hx, rfl, by have := hmu.out; unfold U64 at *; omega, hG6, hc2, hB6⟩
                case measure => simp [intOf]; omega
end Go.Proofs.YtfiplgplbjlpdaaGreatDoor
