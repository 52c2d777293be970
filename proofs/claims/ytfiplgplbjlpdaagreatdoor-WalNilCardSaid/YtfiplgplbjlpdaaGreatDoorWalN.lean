/- Contracts: (*wal.Log).First, Next, Get at a log. -/
import Derived.Test.YtfiplgplbjlpdaaGreatDoorWalQ
import Derived.Test.YtfiplgplbjlpdaaGreatDoorReg
namespace Go.Proofs.YtfiplgplbjlpdaaGreatDoor
open Go.RowKit Go.Maps
attribute [local go_sem ↓] Go.wp_at_zero Go.wp_at_succ

theorem first_any (w : World) (L : Nat) (f : Int) (c2 : w.cell? ⟨L, 2, none⟩ = some (.int .u64 f)) : Calls Tryz.prog 12 #[.pointer (some ⟨L, 0, none⟩)] w fun e w' => e = .returned (.int .u64 f) ∧ w' = w := by
  go_enter Tryz.func12, Tryz.ntmps12
  go_wp2
  go_ret
  exact ⟨rfl, rfl⟩
theorem next_any (w : World) (L f n cap : Nat) (a : Option Addr) (c2 : w.cell? ⟨L, 2, none⟩ = some (.int .u64 (f : Int))) (c3 : w.cell? ⟨L, 3, none⟩ = some (.slice a n cap)) (hf : (f : Int) ≤ 1000000000) (hn : (n : Int) ≤ 1000000000) :
    Calls Tryz.prog 13 #[.pointer (some ⟨L, 0, none⟩)] w fun e w' => e = .returned (.int .u64 ((f + n : Nat) : Int)) ∧ w' = w.drew := by
  have h1 : IntKind.u64.wrap (n : Int) = (n : Int) := IntWalk.u64_in _ ⟨by omega, by omega⟩
  have h2 : IntKind.u64.wrap ((f : Int) + (n : Int)) = (f : Int) + (n : Int) := IntWalk.u64_in _ ⟨by omega, by omega⟩
  go_enter Tryz.func13, Tryz.ntmps13
  go_wp2
  go_region_held3 (fun W => W.cell? ⟨L, 2, none⟩ = some (.int .u64 (f : Int)) ∧ W.cell? ⟨L, 3, none⟩ = some (.slice a n cap)) (go_keep) (fail)
  all_goals go_wp2
  all_goals go_ret
  all_goals exact ⟨by simp, rfl⟩

set_option maxHeartbeats 1000000 in
theorem get_first (w : World) (L cap rb : Nat) (S : Nat → Prop) (v : Value) (l : List UInt8) (c2 : w.cell? ⟨L, 2, none⟩ = some (.int .u64 0)) (c3 : w.cell? ⟨L, 3, none⟩ = some (.slice (some ⟨rb, 0, none⟩) 1 cap)) (cr : w.cell? ⟨rb, 0, none⟩ = some v)
    (hb : Bytes w S v l) (hl : Few l.length) :
    Calls Tryz.prog 8 #[.pointer (some ⟨L, 0, none⟩), .int .u64 0] w fun e w' => ∃ v', e = .returned (.tuple #[v', .int .i64 0]) ∧ Bytes w' (fun x => w.heap.size ≤ x) v' l ∧ Below w.heap.size w w' := by
  have hrow := Lib.hid hb
  obtain ⟨a, cap2, rfl, _, _, _⟩ := hb.open
  clear hb
  have hlL := World.block_lt_of_cell? w _ c3
  have hlr := World.block_lt_of_cell? w _ cr
  have hcl := fun W (hW : Below w.heap.size w W) => clone_bytes W S _ _ (Row.keep hrow.out (.of_below hW)) (by simpa using hl)
  go_enter Tryz.func8, Tryz.ntmps8
  go_wp2_with (first
    | (go_at_call 12; refine (first_any _ L 0 c2).mono ?_; rintro e w1 ⟨rfl, hw⟩; replace hw := hw.symm; subst hw)
    | (go_at_call 13; refine (next_any _ L 0 1 cap _ c2 c3 (by omega) (by omega)).mono ?_; rintro e w2 ⟨rfl, hw⟩; replace hw := hw.symm; subst hw))
  have hwz : IntKind.u64.wrap 0 = 0 := by decide
  refine wp_region_noPanic ?_
  refine Plan.begin ((.take 0 (.take 1 (.take 2 (.load 3 (.take 4 (.take 5 (.take 6 (.take 7 (.load 8 (.take 9 (.take 10 (.load 11 (.eff 12 true (.take 13 (.take 14 .done)))))))))))))))) [3, 8, 11] (fun W => W.cell? ⟨L, 2, none⟩ = some (.int .u64 0) ∧ W.cell? ⟨L, 3, none⟩ = some (.slice (some ⟨rb, 0, none⟩) 1 cap) ∧ W.cell? ⟨rb, 0, none⟩ = some (.slice a l.length cap2)) (by kernel_rfl) (by kernel_rfl) (fun _ _ _ _ _ h => h) (by (try dsimp only); (first | go_keep | exact ⟨(hb3.cell (p := ⟨L, 2, none⟩) hlL).trans c2, (hb3.cell (p := ⟨L, 3, none⟩) hlL).trans c3, (hb3.cell (p := ⟨rb, 0, none⟩) hlr).trans cr⟩)) (fun hS => ?_)
  refine Plan.wp_take (i := 0) (v := ?_) rfl (by rfl) ?_ ?_
  rotate_left
  · (intro w; go_simp; (try (first | with_reducible rfl | (rw [if_neg (by omega)]; (try with_reducible rfl)))))
  try simp only [Act.put, List.setIfInBounds_toArray, List.set_cons_zero, List.set_cons_succ]
  refine Plan.wp_take (i := 1) (v := ?_) rfl (by rfl) ?_ ?_
  rotate_left
  · (intro w; go_simp; (try (first | with_reducible rfl | (rw [if_neg (by omega)]; (try with_reducible rfl)))))
  try simp only [Act.put, List.setIfInBounds_toArray, List.set_cons_zero, List.set_cons_succ]
  refine Plan.wp_take (i := 2) (v := ?_) rfl (by rfl) ?_ ?_
  rotate_left
  · (intro w; go_simp; (try (first | with_reducible rfl | (rw [if_neg (by omega)]; (try with_reducible rfl)))))
  try simp only [Act.put, List.setIfInBounds_toArray, List.set_cons_zero, List.set_cons_succ]
  refine Plan.wp_load (i := 3) (v := ?_) rfl (by assumption) (by rfl) ?_ ?_
  rotate_left
  · (intro w hSw; (try dsimp only at hSw); go_simp; (try (first | with_reducible rfl | (rw [if_neg (by omega)]; (try with_reducible rfl)))))
  try simp only [Act.put, List.setIfInBounds_toArray, List.set_cons_zero, List.set_cons_succ]
  refine Plan.wp_take (i := 4) (v := ?_) rfl (by rfl) ?_ ?_
  rotate_left
  · (intro w; go_simp; (try (first | with_reducible rfl | (rw [if_neg (by omega)]; (try with_reducible rfl)))))
  try simp only [Act.put, List.setIfInBounds_toArray, List.set_cons_zero, List.set_cons_succ]
  refine Plan.wp_take (i := 5) (v := ?_) rfl (by rfl) ?_ ?_
  rotate_left
  · (intro w; go_simp; (try (first | with_reducible rfl | (rw [if_neg (by omega)]; (try with_reducible rfl)))))
  try simp only [Act.put, List.setIfInBounds_toArray, List.set_cons_zero, List.set_cons_succ]
  refine Plan.wp_take (i := 6) (v := ?_) rfl (by rfl) ?_ ?_
  rotate_left
  · (intro w; go_simp; (try (first | with_reducible rfl | (rw [if_neg (by omega)]; (try with_reducible rfl)))))
  try simp only [Act.put, List.setIfInBounds_toArray, List.set_cons_zero, List.set_cons_succ]
  refine Plan.wp_take (i := 7) (v := ?_) rfl (by rfl) ?_ ?_
  rotate_left
  · (intro w; go_simp; (try (first | with_reducible rfl | (rw [if_neg (by omega)]; (try with_reducible rfl)))))
  try simp only [Act.put, List.setIfInBounds_toArray, List.set_cons_zero, List.set_cons_succ]
  refine Plan.wp_load (i := 8) (v := ?_) rfl (by assumption) (by rfl) ?_ ?_
  rotate_left
  · (intro w hSw; (try dsimp only at hSw); go_simp; (try (first | with_reducible rfl | (rw [if_neg (by omega)]; (try with_reducible rfl)))))
  try simp only [Act.put, List.setIfInBounds_toArray, List.set_cons_zero, List.set_cons_succ]
  refine Plan.wp_take (i := 9) (v := ?_) rfl (by rfl) ?_ ?_
  rotate_left
  · (intro w; go_simp; (try (first | with_reducible rfl | (rw [if_neg (by omega)]; (try with_reducible rfl)))))
  try simp only [Act.put, List.setIfInBounds_toArray, List.set_cons_zero, List.set_cons_succ]
  refine Plan.wp_take (i := 10) (v := ?_) rfl (by rfl) ?_ ?_
  rotate_left
  · (intro w; go_simp; (try (first | with_reducible rfl | (rw [if_neg (by omega)]; (try with_reducible rfl)))))
  try simp only [Act.put, List.setIfInBounds_toArray, List.set_cons_zero, List.set_cons_succ]
  refine Plan.wp_load (i := 11) (v := ?_) rfl (by assumption) (by rfl) ?_ ?_
  rotate_left
  · (intro w hSw; (try dsimp only at hSw); go_simp; (try (first | with_reducible rfl | (rw [if_neg (by omega)]; (try with_reducible rfl)))))
  try simp only [Act.put, List.setIfInBounds_toArray, List.set_cons_zero, List.set_cons_succ]
  refine Plan.wp_eff (i := 12) rfl (by rfl) (fun K hK => ?_)
  go_simp
  (go_at_call 30; refine (hcl _ (Below.refl _ _).drew.drew).mono ?_; rintro e w3 ⟨v3, rfl, hv3, hb3'⟩; have hb3 : Below w.heap.size w w3 := (Below.refl w.heap.size w).drew.drew.trans hb3'; clear hb3')
  try dsimp only
  refine hK.out _ _ ?_ (fun hS => ?_)
  · ((try dsimp only); (first | go_keep | exact ⟨(hb3.cell (p := ⟨L, 2, none⟩) hlL).trans c2, (hb3.cell (p := ⟨L, 3, none⟩) hlL).trans c3, (hb3.cell (p := ⟨rb, 0, none⟩) hlr).trans cr⟩))
  clear hK K
  try simp only [Act.put, List.setIfInBounds_toArray, List.set_cons_zero, List.set_cons_succ]
  refine Plan.wp_take (i := 13) (v := ?_) rfl (by rfl) ?_ ?_
  rotate_left
  · (intro w; go_simp; (try (first | with_reducible rfl | (rw [if_neg (by omega)]; (try with_reducible rfl)))))
  try simp only [Act.put, List.setIfInBounds_toArray, List.set_cons_zero, List.set_cons_succ]
  refine Plan.wp_take (i := 14) (v := ?_) rfl (by rfl) ?_ ?_
  rotate_left
  · (intro w; go_simp; (try (first | with_reducible rfl | (rw [if_neg (by omega)]; (try with_reducible rfl)))))
  try simp only [Act.put, List.setIfInBounds_toArray, List.set_cons_zero, List.set_cons_succ]
  refine Plan.wp_done ?_
  refine NoPanic.normal ?_
  rotate_left
  all_goals go_wp2
  all_goals refine bodyPost_ret (results_tmp2 rfl _ _ _) rfl ?_
  all_goals exact ⟨_, rfl, hv3, hb3⟩
end Go.Proofs.YtfiplgplbjlpdaaGreatDoor
