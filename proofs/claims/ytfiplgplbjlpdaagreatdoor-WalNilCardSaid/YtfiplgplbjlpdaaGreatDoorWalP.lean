/- Contracts: wal.Open: a name that is none; no disk; a disk without files. -/
import Derived.Test.YtfiplgplbjlpdaaGreatDoorWalG
import Derived.Test.YtfiplgplbjlpdaaGreatDoorSortN
namespace Go.Proofs.YtfiplgplbjlpdaaGreatDoor
open Go.RowKit Go.Maps

/-- Is a text a log's name? -/
def isLog (s : ByteArray) : Bool := decide (1 ≤ s.size) && decide (s.size ≤ 4) && allIn letters s.data.toList

theorem lost_nil (w : World) : Calls Tryz.prog 62 #[.pointer none] w fun e w' => e = .returned (.bool true) ∧ w' = w := by
  go_enter Tryz.func62, Tryz.ntmps62
  go_wp2
  go_ret
  exact ⟨rfl, rfl⟩

set_option maxRecDepth 100000 in
set_option maxHeartbeats 2000000 in
theorem open_good (w : World) (p mb : Nat) (room : Int) (name : ByteArray) (hD : Disk0 w p mb room) (hn : isLog name = true) :
    Calls Tryz.prog 9 #[.pointer (some ⟨p, 0, none⟩), .string name] w fun e w' => ∃ L, e = .returned (.tuple #[.pointer (some ⟨L, 0, none⟩), .int .i64 0]) ∧ Log0 w' L p name ∧ w.heap.size ≤ L ∧ Below w.heap.size w w' := by
  have hmf : ∀ (fn : Fn) (first cap : Array Value) (w : World), (Instr.makeFunc fn first cap).run Tryz.prog w = .ok (.func fn first cap) w := fun _ _ _ _ => rfl
  unfold isLog at hn
  simp only [Bool.and_eq_true, decide_eq_true_eq] at hn
  obtain ⟨⟨h1, h2⟩, h3⟩ := hn
  have hne : ¬ name.toList = [] := text_ne name h1
  have hie : name.toList.isEmpty = false := by simpa using hne
  have hDh := Lib.hid hD; clear hD
  have hBa := (Below.refl w.heap.size w).alloc (Nat.le_refl _) (.cells #[.pointer none] 25)
  have hBb := hBa.alloc hBa.size (.cells #[.int .i64 0] 26)
  have hAE : ∀ W, Below ((w.alloc (.cells #[.pointer none] 25)).alloc (.cells #[.int .i64 0] 26)).heap.size ((w.alloc (.cells #[.pointer none] 25)).alloc (.cells #[.int .i64 0] 26)) W →
      W.heap[w.heap.size]? = some (.cells #[.pointer none] 25 (0, 0)) ∧ W.heap[w.heap.size + 1]? = some (.cells #[.int .i64 0] 26 (0, 0)) := fun W hW => by
    have e1 := heap_alloc_new w (.cells #[.pointer none] 25)
    have e2 := heap_alloc_new (w.alloc (.cells #[.pointer none] 25)) (.cells #[.int .i64 0] 26)
    rw [World.size_alloc] at e2
    have e3 := (heap_alloc_old (w.alloc (.cells #[.pointer none] 25)) (.cells #[.int .i64 0] 26) (lt_of e1)).trans e1
    exact ⟨(hW.block _ (lt_of e3)).trans e3, (hW.block _ (lt_of e2)).trans e2⟩
  have hF : ∀ W, Below ((w.alloc (.cells #[.pointer none] 25)).alloc (.cells #[.int .i64 0] 26)).heap.size ((w.alloc (.cells #[.pointer none] 25)).alloc (.cells #[.int .i64 0] 26)) W → ∀ W3,
      (W.setCell ⟨w.heap.size, 0, none⟩ (.pointer (some ⟨W.heap.size, 0, none⟩))).alloc (.cells #[.pointer (some ⟨p, 0, none⟩), .string name, .int .u64 0, .slice none 0 0, .slice none 0 0, .int .i64 0, .bool false] 64) = W3 →
      Log0 W3 W.heap.size p name ∧ W3.heap[w.heap.size]? = some (.cells #[.pointer (some ⟨W.heap.size, 0, none⟩)] 25 (0, 0)) ∧ W3.heap[w.heap.size + 1]? = some (.cells #[.int .i64 0] 26 (0, 0)) ∧ Below w.heap.size w W3 := fun W hW W3 h3 => by
    obtain ⟨hA, hE⟩ := hAE W hW
    have s0 := set_of hA 0 (.pointer (some ⟨W.heap.size, 0, none⟩))
    have sE := (Below.heap_setCell W ⟨w.heap.size, 0, none⟩ (.pointer (some ⟨W.heap.size, 0, none⟩)) (w.heap.size + 1) (by simp)).trans hE
    have n0 := heap_alloc_new (W.setCell ⟨w.heap.size, 0, none⟩ (.pointer (some ⟨W.heap.size, 0, none⟩))) (.cells #[.pointer (some ⟨p, 0, none⟩), .string name, .int .u64 0, .slice none 0 0, .slice none 0 0, .int .i64 0, .bool false] 64)
    have hsz : (W.setCell ⟨w.heap.size, 0, none⟩ (.pointer (some ⟨W.heap.size, 0, none⟩))).heap.size = W.heap.size := by simp [World.setCell]
    have hB := hBb.trans (hW.mono hBb.size)
    have hBs := hB.setCell (p := ⟨w.heap.size, 0, none⟩) (Nat.le_refl _) (.pointer (some ⟨W.heap.size, 0, none⟩))
    rw [hsz] at n0
    subst h3
    refine ⟨n0, (heap_alloc_old _ _ (lt_of s0)).trans s0, (heap_alloc_old _ _ (lt_of sE)).trans sE, hBs.alloc hBs.size _⟩
  go_enter_defers Tryz.func9, Tryz.ntmps9
  go_wp2_with (first
    | (go_at_call 31; refine (trim_letters _ name (by omega)).mono ?_; rintro e w1 ⟨⟨r, rfl, hr⟩, hb1⟩; have hre : r.toList = [] := toList_nil (hr.2 h3); clear hr; have hB1 := hBb.trans (hb1.mono hBb.size))
    | (go_at_call 25; refine (down_0 _ p mb room (hDh.out.below hB1)).mono ?_; rintro e w2 ⟨rfl, rfl⟩; have hA := hAE _ hb1; obtain ⟨hA, hE⟩ := hA; have cA := cells_of hA 0; have fA := frozen_of hA 0; have cE := cells_of hE 0; have fE := frozen_of hE 0; have hAl := lt_of hA; have hEl := lt_of hE; simp only [List.getElem?_toArray, List.getElem?_cons_zero] at cA cE)
    | (go_at_call 35; obtain ⟨W3, hW3⟩ : ∃ W3, (w2.setCell ⟨w.heap.size, 0, none⟩ (.pointer (some ⟨w2.heap.size, 0, none⟩))).alloc (.cells #[.pointer (some ⟨p, 0, none⟩), .string name, .int .u64 0, .slice none 0 0, .slice none 0 0, .int .i64 0, .bool false] 64) = W3 := ⟨_, rfl⟩; rw [hW3]; obtain ⟨hL, hA3, hE3, hB3⟩ := hF _ hb1 _ hW3; clear hW3 cA fA cE fE hA hE hAl hEl hF hAE; have cA3 := cells_of hA3 0; have cE3 := cells_of hE3 0; simp only [List.getElem?_toArray, List.getElem?_cons_zero] at cA3 cE3; refine (head_0 W3 _ p name hL h2).mono ?_; rintro e w3 ⟨⟨s, rfl, hs⟩, rfl⟩)
    | (go_at_call 34; refine (read_0 _ p mb room s hs (hDh.out.below hB3)).mono ?_; rintro e w4 ⟨rfl, rfl⟩)
    | (go_at_call 37; refine (gather_0 _ _ p mb room name hL (hDh.out.below hB3) (fun W => sort_none _ W)).mono ?_; rintro e w5 ⟨rfl, hb5⟩; have hA5 := (hb5.block _ (lt_of hA3)).trans hA3; have hE5 := (hb5.block _ (lt_of hE3)).trans hE3; have cA5 := cells_of hA5 0; have fA5 := frozen_of hA5 0; have cE5 := cells_of hE5 0; have fE5 := frozen_of hE5 0; simp only [List.getElem?_toArray, List.getElem?_cons_zero] at cA5 cE5))
  have hB5 := hB3.trans (hb5.mono hB3.size)
  have hL5 := hL.below hb5
  have hAE5 : w.heap.size ≠ w.heap.size + 1 := by omega
  have hLA : w2.heap.size ≠ w.heap.size ∧ w2.heap.size ≠ w.heap.size + 1 := by have := hb1.size; simp at this; omega
  have hA6 := set_of hA5 0 (.pointer (some ⟨w2.heap.size, 0, none⟩))
  have hE6 := (Below.heap_setCell w5 ⟨w.heap.size, 0, none⟩ (.pointer (some ⟨w2.heap.size, 0, none⟩)) (w.heap.size + 1) (by simp)).trans hE5
  have hA7 := (Below.heap_setCell (w5.setCell ⟨w.heap.size, 0, none⟩ (.pointer (some ⟨w2.heap.size, 0, none⟩))) ⟨w.heap.size + 1, 0, none⟩ (.int .i64 0) w.heap.size (by simp)).trans hA6
  have hE7 := set_of hE6 0 (.int .i64 0)
  have hL7 : Log0 ((w5.setCell ⟨w.heap.size, 0, none⟩ (.pointer (some ⟨w2.heap.size, 0, none⟩))).setCell ⟨w.heap.size + 1, 0, none⟩ (.int .i64 0)) w2.heap.size p name :=
    (Below.heap_setCell _ ⟨w.heap.size + 1, 0, none⟩ _ _ hLA.2).trans ((Below.heap_setCell _ ⟨w.heap.size, 0, none⟩ _ _ hLA.1).trans hL5)
  have hB7 := (hB5.setCell (p := ⟨w.heap.size, 0, none⟩) (Nat.le_refl _) (.pointer (some ⟨w2.heap.size, 0, none⟩))).setCell (p := ⟨w.heap.size + 1, 0, none⟩) (by simp) (.int .i64 0)
  generalize (w5.setCell ⟨w.heap.size, 0, none⟩ (.pointer (some ⟨w2.heap.size, 0, none⟩))).setCell ⟨w.heap.size + 1, 0, none⟩ (.int .i64 0) = w7 at *
  have g1 := cells_of hA7 0
  have g2 := cells_of hE7 0
  simp at g1 g2
  refine leaves_cons (f := 32) (args := #[.pointer (some ⟨w.heap.size, 0, none⟩), .pointer (some ⟨w.heap.size + 1, 0, none⟩)]) (by simp) ?_ ?_
  · first | rfl | exact enters_of Tryz.func32 (by kernel_rfl) rfl _ _ | (simp [invoke, go_sem]; trace_state)
  · refine (openDeferred_idle w7 _ _ _ g1 g2).mono ?_
    rintro e u' w' ⟨rfl, rfl, rfl⟩
    have g1' : w7.drew.cell? ⟨w.heap.size, 0, none⟩ = _ := g1
    have g2' : w7.drew.cell? ⟨w.heap.size + 1, 0, none⟩ = _ := g2
    simp [Leaves, settle, results, Tryz.results9, go_sem, g1', g2']
    exact ⟨hL7, hB1.size, hB7.drew⟩
end Go.Proofs.YtfiplgplbjlpdaaGreatDoor
