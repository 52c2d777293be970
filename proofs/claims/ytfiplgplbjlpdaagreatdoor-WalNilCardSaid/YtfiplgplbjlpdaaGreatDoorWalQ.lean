/- Contracts: wal.Open: a name that is none; no disk. -/
import Derived.Test.YtfiplgplbjlpdaaGreatDoorWalP
namespace Go.Proofs.YtfiplgplbjlpdaaGreatDoor
open Go.RowKit Go.Maps

theorem text_nil (s : ByteArray) (h : s.size = 0) : s = ⟨#[]⟩ := by
  refine WideShapes.bytes_inj ?_
  have h1 : s.data.toList.length = 0 := by rw [Array.length_toList]; exact h
  rw [List.eq_nil_of_length_eq_zero h1]

set_option maxRecDepth 100000 in
set_option maxHeartbeats 2000000 in
theorem open_nil (w : World) (name : ByteArray) (hn : isLog name = true) :
    Calls Tryz.prog 9 #[.pointer none, .string name] w fun e w' => e = .returned (.tuple #[.pointer none, .int .i64 6]) ∧ Below w.heap.size w w' := by
  unfold isLog at hn
  simp only [Bool.and_eq_true, decide_eq_true_eq] at hn
  obtain ⟨⟨h1, h2⟩, h3⟩ := hn
  have hne : ¬ name.toList = [] := text_ne name h1
  have hie : name.toList.isEmpty = false := by simpa using hne
  have hBa := (Below.refl w.heap.size w).alloc (Nat.le_refl _) (.cells #[.pointer none] 25)
  have hBb := hBa.alloc hBa.size (.cells #[.int .i64 0] 26)
  have hAE : ∀ W, Below ((w.alloc (.cells #[.pointer none] 25)).alloc (.cells #[.int .i64 0] 26)).heap.size ((w.alloc (.cells #[.pointer none] 25)).alloc (.cells #[.int .i64 0] 26)) W →
      W.heap[w.heap.size]? = some (.cells #[.pointer none] 25 (0, 0)) ∧ W.heap[w.heap.size + 1]? = some (.cells #[.int .i64 0] 26 (0, 0)) := fun W hW => by
    have e1 := heap_alloc_new w (.cells #[.pointer none] 25)
    have e2 := heap_alloc_new (w.alloc (.cells #[.pointer none] 25)) (.cells #[.int .i64 0] 26)
    rw [World.size_alloc] at e2
    have e3 := (heap_alloc_old (w.alloc (.cells #[.pointer none] 25)) (.cells #[.int .i64 0] 26) (lt_of e1)).trans e1
    exact ⟨(hW.block _ (lt_of e3)).trans e3, (hW.block _ (lt_of e2)).trans e2⟩
  go_enter_defers Tryz.func9, Tryz.ntmps9
  go_wp2_with (go_at_call 31; refine (trim_letters _ name (by omega)).mono ?_; rintro e w1 ⟨⟨r, rfl, hr⟩, hb1⟩; have hre : r.toList = [] := toList_nil (hr.2 h3); clear hr; have hB1 := hBb.trans (hb1.mono hBb.size); have hA := hAE _ hb1; obtain ⟨hA, hE⟩ := hA; have cA := cells_of hA 0; have fA := frozen_of hA 0; have cE := cells_of hE 0; have fE := frozen_of hE 0; simp only [List.getElem?_toArray, List.getElem?_cons_zero] at cA cE)
  have hA6 := set_of hA 0 (.pointer none)
  have hE6 := (Below.heap_setCell w1 ⟨w.heap.size, 0, none⟩ (.pointer none) (w.heap.size + 1) (by simp)).trans hE
  have hA7 := (Below.heap_setCell (w1.setCell ⟨w.heap.size, 0, none⟩ (.pointer none)) ⟨w.heap.size + 1, 0, none⟩ (.int .i64 6) w.heap.size (by simp)).trans hA6
  have hE7 := set_of hE6 0 (.int .i64 6)
  have hB7 := (hB1.setCell (p := ⟨w.heap.size, 0, none⟩) (Nat.le_refl _) (.pointer none)).setCell (p := ⟨w.heap.size + 1, 0, none⟩) (by simp) (.int .i64 6)
  generalize (w1.setCell ⟨w.heap.size, 0, none⟩ (.pointer none)).setCell ⟨w.heap.size + 1, 0, none⟩ (.int .i64 6) = w7 at *
  have g1 := cells_of hA7 0
  have g2 := cells_of hE7 0
  simp at g1 g2
  simp [bodyPostD, Leaves, results, Tryz.results9, go_sem, g1, g2]
  exact hB7

set_option maxRecDepth 100000 in
set_option maxHeartbeats 2000000 in
theorem open_bad (w : World) (v : Value) (name : ByteArray) (hs : name.size ≤ maxLen) (hn : isLog name = false) :
    Calls Tryz.prog 9 #[v, .string name] w fun e w' => e = .returned (.tuple #[.pointer none, .int .i64 1]) ∧ Below w.heap.size w w' := by
  unfold maxLen at hs
  have hBa := (Below.refl w.heap.size w).alloc (Nat.le_refl _) (.cells #[.pointer none] 25)
  have hBb := hBa.alloc hBa.size (.cells #[.int .i64 0] 26)
  have hAE : ∀ W, Below ((w.alloc (.cells #[.pointer none] 25)).alloc (.cells #[.int .i64 0] 26)).heap.size ((w.alloc (.cells #[.pointer none] 25)).alloc (.cells #[.int .i64 0] 26)) W →
      W.heap[w.heap.size]? = some (.cells #[.pointer none] 25 (0, 0)) ∧ W.heap[w.heap.size + 1]? = some (.cells #[.int .i64 0] 26 (0, 0)) := fun W hW => by
    have e1 := heap_alloc_new w (.cells #[.pointer none] 25)
    have e2 := heap_alloc_new (w.alloc (.cells #[.pointer none] 25)) (.cells #[.int .i64 0] 26)
    rw [World.size_alloc] at e2
    have e3 := (heap_alloc_old (w.alloc (.cells #[.pointer none] 25)) (.cells #[.int .i64 0] 26) (lt_of e1)).trans e1
    exact ⟨(hW.block _ (lt_of e3)).trans e3, (hW.block _ (lt_of e2)).trans e2⟩
  by_cases h1 : name.toList = []
  · have hBc := hBa.alloc hBa.size (.cells #[.int .i64 1] 26)
    go_enter_defers Tryz.func9, Tryz.ntmps9
    go_wp2
    simp [bodyPostD, Leaves, results, Tryz.results9, go_sem]
    exact hBc
  · have hie : name.toList.isEmpty = false := by simpa using h1
    by_cases h2 : name.size ≤ 4
    · have h3 : ¬ allIn letters name.data.toList = true := by
        intro h3
        have h4 : 1 ≤ name.size := by
          rcases Nat.eq_zero_or_pos name.size with h | h
          · exact absurd (toList_nil (text_nil name h)) h1
          · exact h
        simp [isLog, h2, h3, h4] at hn
      go_enter_defers Tryz.func9, Tryz.ntmps9
      go_wp2_with (go_at_call 31; refine (trim_letters _ name (by omega)).mono ?_; rintro e w1 ⟨⟨r, rfl, hr⟩, hb1⟩; have hre : ¬ r.toList = [] := toList_ne (fun h => h3 (hr.1 h)); have hri : r.toList.isEmpty = false := (by simpa using hre); clear hr; have hB1 := hBb.trans (hb1.mono hBb.size); have hA := hAE _ hb1; obtain ⟨hA, hE⟩ := hA; have cA := cells_of hA 0; have fA := frozen_of hA 0; have cE := cells_of hE 0; have fE := frozen_of hE 0; simp only [List.getElem?_toArray, List.getElem?_cons_zero] at cA cE)
      have hA6 := set_of hA 0 (.pointer none)
      have hE6 := (Below.heap_setCell w1 ⟨w.heap.size, 0, none⟩ (.pointer none) (w.heap.size + 1) (by simp)).trans hE
      have hA7 := (Below.heap_setCell (w1.setCell ⟨w.heap.size, 0, none⟩ (.pointer none)) ⟨w.heap.size + 1, 0, none⟩ (.int .i64 1) w.heap.size (by simp)).trans hA6
      have hE7 := set_of hE6 0 (.int .i64 1)
      have hB7 := (hB1.setCell (p := ⟨w.heap.size, 0, none⟩) (Nat.le_refl _) (.pointer none)).setCell (p := ⟨w.heap.size + 1, 0, none⟩) (by simp) (.int .i64 1)
      generalize (w1.setCell ⟨w.heap.size, 0, none⟩ (.pointer none)).setCell ⟨w.heap.size + 1, 0, none⟩ (.int .i64 1) = w7 at *
      have g1 := cells_of hA7 0
      have g2 := cells_of hE7 0
      simp at g1 g2
      simp [bodyPostD, Leaves, results, Tryz.results9, go_sem, g1, g2]
      exact hB7
    · have hBc := hBa.alloc hBa.size (.cells #[.int .i64 1] 26)
      go_enter_defers Tryz.func9, Tryz.ntmps9
      go_wp2
      simp [bodyPostD, Leaves, results, Tryz.results9, go_sem]
      exact hBc
end Go.Proofs.YtfiplgplbjlpdaaGreatDoor
