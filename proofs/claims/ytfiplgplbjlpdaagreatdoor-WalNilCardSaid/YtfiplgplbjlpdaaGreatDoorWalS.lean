/- Contract: (*wal.Log).Append on a log without records. -/
import Derived.Test.YtfiplgplbjlpdaaGreatDoorWalR
namespace Go.Proofs.YtfiplgplbjlpdaaGreatDoor
open Go.RowKit Go.Maps
attribute [local go_sem ↓] Go.wp_at_zero Go.wp_at_succ

set_option maxRecDepth 100000 in
set_option maxHeartbeats 2000000 in
theorem append_0 (w : World) (L p mb : Nat) (room : Int) (name : ByteArray) (S : Nat → Prop) (v : Value) (l : List UInt8) (h : Log0 w L p name) (hD : Disk0 w p mb room) (hn : isLog name = true) (hb : Bytes w S v l) (hl : l.length ≤ 1000) (hr : 2000 ≤ room) (hSd : ∀ b, S b → b ≠ p ∧ b ≠ mb ∧ b ≠ L) :
    Calls Tryz.prog 14 #[.pointer (some ⟨L, 0, none⟩), v] w fun e w' => e = .returned (.int .i64 0) ∧ Log1 w w' L p mb l := by
  have hmf : ∀ (fn : Fn) (first cap : Array Value) (w : World), (Instr.makeFunc fn first cap).run Tryz.prog w = .ok (.func fn first cap) w := fun _ _ _ _ => rfl
  have hrow := Lib.hid hb
  obtain ⟨a, cap, rfl, hcap, hmax, _⟩ := hb.open
  unfold maxLen at hmax
  clear hb
  have hlh := Lib.hid h; have hDh := Lib.hid hD
  clear h hD
  have hBa := (Below.refl w.heap.size w).alloc (Nat.le_refl _) (.cells #[.pointer (some ⟨L, 0, none⟩)] 25)
  have hBb := hBa.alloc hBa.size (.cells #[.int .i64 0] 26)
  have hBc := hBb.alloc hBb.size (.cells #[.slice a l.length cap] 23)
  have hAE : ∀ W, Below (((w.alloc (.cells #[.pointer (some ⟨L, 0, none⟩)] 25)).alloc (.cells #[.int .i64 0] 26)).alloc (.cells #[.slice a l.length cap] 23)).heap.size (((w.alloc (.cells #[.pointer (some ⟨L, 0, none⟩)] 25)).alloc (.cells #[.int .i64 0] 26)).alloc (.cells #[.slice a l.length cap] 23)) W →
      W.heap[w.heap.size]? = some (.cells #[.pointer (some ⟨L, 0, none⟩)] 25 (0, 0)) ∧ W.heap[w.heap.size + 1]? = some (.cells #[.int .i64 0] 26 (0, 0)) := fun W hW => by
    have e1 := heap_alloc_new w (.cells #[.pointer (some ⟨L, 0, none⟩)] 25)
    have e2 := heap_alloc_new (w.alloc (.cells #[.pointer (some ⟨L, 0, none⟩)] 25)) (.cells #[.int .i64 0] 26)
    rw [World.size_alloc] at e2
    have e3 := (heap_alloc_old (w.alloc (.cells #[.pointer (some ⟨L, 0, none⟩)] 25)) (.cells #[.int .i64 0] 26) (lt_of e1)).trans e1
    have e4 := (heap_alloc_old _ (.cells #[.slice a l.length cap] 23) (lt_of e3)).trans e3
    have e5 := (heap_alloc_old _ (.cells #[.slice a l.length cap] 23) (lt_of e2)).trans e2
    exact ⟨(hW.block _ (lt_of e4)).trans e4, (hW.block _ (lt_of e5)).trans e5⟩
  have hnewl := cells_of (heap_alloc_new ((w.alloc (.cells #[.pointer (some ⟨L, 0, none⟩)] 25)).alloc (.cells #[.int .i64 0] 26)) (.cells #[.slice a l.length cap] 23)) 0
  rw [World.size_alloc, World.size_alloc] at hnewl
  have hlay := lay_one _ S (w.heap.size + 1 + 1) (.slice a l.length cap) l (hnewl.trans rfl) (by simp) (hrow.out.keep (.of_below hBc)) (by omega)
  replace hlay := hlay.mono fun _ _ h => h.two
  clear hnewl
  obtain ⟨c0, c1, c2, c3, c4, c5, c6⟩ := (hlh.out.below hBb).cells
  go_enter_defers Tryz.func14, Tryz.ntmps14
  go_wp2_with (first
    | (go_at_call 38; refine (dead_0 _ L p name (hlh.out.below hBb)).mono ?_; rintro e w1 ⟨rfl, hw⟩; replace hw := hw.symm; subst hw)
    | (go_at_call 40; refine hlay.mono ?_; rintro e w2 ⟨ab, cb, Bb, rfl, hown, hs4, hs40, hb2⟩; clear hlay c0 c1 c2 c3 c4 c5 c6; have hB2 := hBc.trans (hb2.mono hBc.size); obtain ⟨hA, hE⟩ := hAE _ hb2; have cA := cells_of hA 0; have cE := cells_of hE 0; simp only [List.getElem?_toArray, List.getElem?_cons_zero] at cA cE; obtain ⟨c0, c1, c2, c3, c4, c5, c6⟩ := (hlh.out.below hB2).cells))
  have hwr : IntKind.i64.wrap (0 + 1) = 1 := by decide
  have hz4 : name.size ≤ 4 := by
    unfold isLog at hn
    simp only [Bool.and_eq_true, decide_eq_true_eq] at hn
    exact hn.1.2
  have hz5 : (name ++ (⟨#[46]⟩ : ByteArray)).size ≤ 5 := by
    rw [ByteArray.size_append]
    have : (⟨#[46]⟩ : ByteArray).size = 1 := rfl
    omega
  have k1 := World.new_ne w2 _ cA
  have k2 := World.new_ne w2 _ c1
  go_cut [9] from 77 (fun s9 wx => SegMade name w2 s9 wx)
  case first =>
    refine wp_region_noPanic ?_
    refine Plan.begin ((.load 0 (.take 1 (.take 2 (.load 3 (.take 4 (.load 5 (.take 6 (.take 7 (.load 8 (.take 9 (.load 12 (.two 10 true (.take 11 (.two 13 true (.take 14 (.eff 15 true (.eff 16 false .done))) 15 true (.eff 13 true (.take 14 (.eff 16 false .done))))) 15 true (.eff 10 true (.take 11 (.eff 13 true (.take 14 (.eff 16 false .done)))))))))))))))))) [0, 3, 5, 8, 12] (fun W => W.cell? ⟨w.heap.size, 0, none⟩ = some (.pointer (some ⟨L, 0, none⟩)) ∧ W.cell? ⟨L, 1, none⟩ = some (.string name) ∧ W.cell? ⟨L, 2, none⟩ = some (.int .u64 0) ∧ W.cell? ⟨L, 3, none⟩ = some (.slice none 0 0) ∧ W.cell? ⟨L, 5, none⟩ = some (.int .i64 0)) (by kernel_rfl) (by kernel_rfl) (fun _ _ _ _ _ h => h) (by (try dsimp only); go_keep) (fun hS => ?_)
    refine Plan.wp_load (i := 0) (v := ?_) rfl (by assumption) (by rfl) ?_ ?_
    rotate_left
    · (intro w hSw; (try dsimp only at hSw); go_simp; (try (first | with_reducible rfl | (rw [if_neg (by omega)]; (try with_reducible rfl)))))
    try simp only [Act.put, List.setIfInBounds_toArray, List.set_cons_zero, List.set_cons_succ]
    refine Plan.wp_take (i := 1) (v := ?_) rfl (by rfl) ?_ ?_
    rotate_left
    · (intro w; go_simp; (try (first | with_reducible rfl | (rw [if_neg (by omega)]; (try with_reducible rfl)))))
    try simp only [Act.put, List.setIfInBounds_toArray, List.set_cons_zero, List.set_cons_succ]
    refine Plan.wp_take (i := 2) (v := ?_) rfl (by rfl) ?_ ?_
    rotate_left
    · (intro w; go_simp; (try (first | with_reducible rfl | (rw [if_neg (by omega)]; (try with_reducible rfl)))))
    try simp only [Act.put, List.setIfInBounds_toArray, List.set_cons_zero, List.set_cons_succ]
    refine Plan.wp_load (i := 3) (v := ?_) rfl (by assumption) (by rfl) ?_ ?_
    rotate_left
    · (intro w hSw; (try dsimp only at hSw); go_simp; (try (first | with_reducible rfl | (rw [if_neg (by omega)]; (try with_reducible rfl)))))
    try simp only [Act.put, List.setIfInBounds_toArray, List.set_cons_zero, List.set_cons_succ]
    refine Plan.wp_take (i := 4) (v := ?_) rfl (by rfl) ?_ ?_
    rotate_left
    · (intro w; go_simp; (try (first | with_reducible rfl | (rw [if_neg (by omega)]; (try with_reducible rfl)))))
    try simp only [Act.put, List.setIfInBounds_toArray, List.set_cons_zero, List.set_cons_succ]
    refine Plan.wp_load (i := 5) (v := ?_) rfl (by assumption) (by rfl) ?_ ?_
    rotate_left
    · (intro w hSw; (try dsimp only at hSw); go_simp; (try (first | with_reducible rfl | (rw [if_neg (by omega)]; (try with_reducible rfl)))))
    try simp only [Act.put, List.setIfInBounds_toArray, List.set_cons_zero, List.set_cons_succ]
    refine Plan.wp_take (i := 6) (v := ?_) rfl (by rfl) ?_ ?_
    rotate_left
    · (intro w; go_simp; (try (first | with_reducible rfl | (rw [if_neg (by omega)]; (try with_reducible rfl)))))
    try simp only [Act.put, List.setIfInBounds_toArray, List.set_cons_zero, List.set_cons_succ]
    refine Plan.wp_take (i := 7) (v := ?_) rfl (by rfl) ?_ ?_
    rotate_left
    · (intro w; go_simp; (try (first | with_reducible rfl | (rw [if_neg (by omega)]; (try with_reducible rfl)))))
    try simp only [Act.put, List.setIfInBounds_toArray, List.set_cons_zero, List.set_cons_succ]
    refine Plan.wp_load (i := 8) (v := ?_) rfl (by assumption) (by rfl) ?_ ?_
    rotate_left
    · (intro w hSw; (try dsimp only at hSw); go_simp; (try (first | with_reducible rfl | (rw [if_neg (by omega)]; (try with_reducible rfl)))))
    try simp only [Act.put, List.setIfInBounds_toArray, List.set_cons_zero, List.set_cons_succ]
    refine Plan.wp_take (i := 9) (v := ?_) rfl (by rfl) ?_ ?_
    rotate_left
    · (intro w; go_simp; (try (first | with_reducible rfl | (rw [if_neg (by omega)]; (try with_reducible rfl)))))
    try simp only [Act.put, List.setIfInBounds_toArray, List.set_cons_zero, List.set_cons_succ]
    refine Plan.wp_load (i := 12) (v := ?_) rfl (by assumption) (by rfl) ?_ ?_
    rotate_left
    · (intro w hSw; (try dsimp only at hSw); go_simp; (try (first | with_reducible rfl | (rw [if_neg (by omega)]; (try with_reducible rfl)))))
    try simp only [Act.put, List.setIfInBounds_toArray, List.set_cons_zero, List.set_cons_succ]
    refine Plan.wp_two ?_ ?_
    refine Plan.wp_eff (i := 10) rfl (by rfl) (fun K hK => ?_)
    go_simp
    (first | (go_at_call 44; refine (itoa_one _).mono ?_; rintro e w3 ⟨rfl, hw⟩; replace hw := hw.symm; subst hw) | (go_at_call 13; refine (next_any _ L 0 0 0 none (by simp [*]) (by simp [*]) (by omega) (by omega)).mono ?_; rintro e w3 ⟨rfl, hw⟩; replace hw := hw.symm; subst hw))
    try dsimp only
    refine hK.out _ _ ?_ (fun hS => ?_)
    · ((try dsimp only); go_keep)
    clear hK K
    try simp only [Act.put, List.setIfInBounds_toArray, List.set_cons_zero, List.set_cons_succ]
    refine Plan.wp_take (i := 11) (v := ?_) rfl (by rfl) ?_ ?_
    rotate_left
    · (intro w; go_simp; (try (first | with_reducible rfl | (rw [if_neg (by omega)]; (try with_reducible rfl)))))
    try simp only [Act.put, List.setIfInBounds_toArray, List.set_cons_zero, List.set_cons_succ]
    refine Plan.wp_two ?_ ?_
    refine Plan.wp_eff (i := 13) rfl (by rfl) (fun K hK => ?_)
    go_simp
    (first | (go_at_call 44; refine (itoa_one _).mono ?_; rintro e w3 ⟨rfl, hw⟩; replace hw := hw.symm; subst hw) | (go_at_call 13; refine (next_any _ L 0 0 0 none (by simp [*]) (by simp [*]) (by omega) (by omega)).mono ?_; rintro e w3 ⟨rfl, hw⟩; replace hw := hw.symm; subst hw))
    try dsimp only
    refine hK.out _ _ ?_ (fun hS => ?_)
    · ((try dsimp only); go_keep)
    clear hK K
    try simp only [Act.put, List.setIfInBounds_toArray, List.set_cons_zero, List.set_cons_succ]
    refine Plan.wp_take (i := 14) (v := ?_) rfl (by rfl) ?_ ?_
    rotate_left
    · (intro w; go_simp; (try (first | with_reducible rfl | (rw [if_neg (by omega)]; (try with_reducible rfl)))))
    try simp only [Act.put, List.setIfInBounds_toArray, List.set_cons_zero, List.set_cons_succ]
    refine Plan.wp_eff (i := 15) rfl (by rfl) (fun K hK => ?_)
    go_simp
    refine hK.out _ _ ?_ (fun hS => ?_)
    · ((try dsimp only); go_keep)
    clear hK K
    try simp only [Act.put, List.setIfInBounds_toArray, List.set_cons_zero, List.set_cons_succ]
    refine Plan.wp_last (i := 16) rfl (by rfl) (fun K hK => ?_)
    go_simp
    refine hK.out _ _ ?_
    clear hK K
    try simp only [Act.put, List.setIfInBounds_toArray, List.set_cons_zero, List.set_cons_succ]
    refine Plan.wp_done ?_
    refine NoPanic.normal ?_
    rotate_left
    refine Plan.wp_eff (i := 15) rfl (by rfl) (fun K hK => ?_)
    go_simp
    refine hK.out _ _ ?_ (fun hS => ?_)
    · ((try dsimp only); go_keep)
    clear hK K
    try simp only [Act.put, List.setIfInBounds_toArray, List.set_cons_zero, List.set_cons_succ]
    refine Plan.wp_eff (i := 13) rfl (by rfl) (fun K hK => ?_)
    go_simp
    (first | (go_at_call 44; refine (itoa_one _).mono ?_; rintro e w3 ⟨rfl, hw⟩; replace hw := hw.symm; subst hw) | (go_at_call 13; refine (next_any _ L 0 0 0 none (by simp [*]) (by simp [*]) (by omega) (by omega)).mono ?_; rintro e w3 ⟨rfl, hw⟩; replace hw := hw.symm; subst hw))
    try dsimp only
    refine hK.out _ _ ?_ (fun hS => ?_)
    · ((try dsimp only); go_keep)
    clear hK K
    try simp only [Act.put, List.setIfInBounds_toArray, List.set_cons_zero, List.set_cons_succ]
    refine Plan.wp_take (i := 14) (v := ?_) rfl (by rfl) ?_ ?_
    rotate_left
    · (intro w; go_simp; (try (first | with_reducible rfl | (rw [if_neg (by omega)]; (try with_reducible rfl)))))
    try simp only [Act.put, List.setIfInBounds_toArray, List.set_cons_zero, List.set_cons_succ]
    refine Plan.wp_last (i := 16) rfl (by rfl) (fun K hK => ?_)
    go_simp
    refine hK.out _ _ ?_
    clear hK K
    try simp only [Act.put, List.setIfInBounds_toArray, List.set_cons_zero, List.set_cons_succ]
    refine Plan.wp_done ?_
    refine NoPanic.normal ?_
    rotate_left
    refine Plan.wp_eff (i := 15) rfl (by rfl) (fun K hK => ?_)
    go_simp
    refine hK.out _ _ ?_ (fun hS => ?_)
    · ((try dsimp only); go_keep)
    clear hK K
    try simp only [Act.put, List.setIfInBounds_toArray, List.set_cons_zero, List.set_cons_succ]
    refine Plan.wp_eff (i := 10) rfl (by rfl) (fun K hK => ?_)
    go_simp
    (first | (go_at_call 44; refine (itoa_one _).mono ?_; rintro e w3 ⟨rfl, hw⟩; replace hw := hw.symm; subst hw) | (go_at_call 13; refine (next_any _ L 0 0 0 none (by simp [*]) (by simp [*]) (by omega) (by omega)).mono ?_; rintro e w3 ⟨rfl, hw⟩; replace hw := hw.symm; subst hw))
    try dsimp only
    refine hK.out _ _ ?_ (fun hS => ?_)
    · ((try dsimp only); go_keep)
    clear hK K
    try simp only [Act.put, List.setIfInBounds_toArray, List.set_cons_zero, List.set_cons_succ]
    refine Plan.wp_take (i := 11) (v := ?_) rfl (by rfl) ?_ ?_
    rotate_left
    · (intro w; go_simp; (try (first | with_reducible rfl | (rw [if_neg (by omega)]; (try with_reducible rfl)))))
    try simp only [Act.put, List.setIfInBounds_toArray, List.set_cons_zero, List.set_cons_succ]
    refine Plan.wp_eff (i := 13) rfl (by rfl) (fun K hK => ?_)
    go_simp
    (first | (go_at_call 44; refine (itoa_one _).mono ?_; rintro e w3 ⟨rfl, hw⟩; replace hw := hw.symm; subst hw) | (go_at_call 13; refine (next_any _ L 0 0 0 none (by simp [*]) (by simp [*]) (by omega) (by omega)).mono ?_; rintro e w3 ⟨rfl, hw⟩; replace hw := hw.symm; subst hw))
    try dsimp only
    refine hK.out _ _ ?_ (fun hS => ?_)
    · ((try dsimp only); go_keep)
    clear hK K
    try simp only [Act.put, List.setIfInBounds_toArray, List.set_cons_zero, List.set_cons_succ]
    refine Plan.wp_take (i := 14) (v := ?_) rfl (by rfl) ?_ ?_
    rotate_left
    · (intro w; go_simp; (try (first | with_reducible rfl | (rw [if_neg (by omega)]; (try with_reducible rfl)))))
    try simp only [Act.put, List.setIfInBounds_toArray, List.set_cons_zero, List.set_cons_succ]
    refine Plan.wp_last (i := 16) rfl (by rfl) (fun K hK => ?_)
    go_simp
    refine hK.out _ _ ?_
    clear hK K
    try simp only [Act.put, List.setIfInBounds_toArray, List.set_cons_zero, List.set_cons_succ]
    refine Plan.wp_done ?_
    refine NoPanic.normal ?_
    rotate_left
    all_goals (go_wp2_with fail; go_meet; exact seg_made w2 name hn)
  case rest =>
    clear hwr hz4 hz5 k1 k2 c0 c1 c2 c3 c4 c5 c6 cA cE
    obtain ⟨g, nm, rfl, hg, hnm, hh, hbx⟩ := hcut
    have g0 := cells_of hh 0
    have g1 := cells_of hh 1
    simp only [List.getElem?_toArray, List.getElem?_cons_zero, List.getElem?_cons_succ] at g0 g1
    have hglt := lt_of hh
    have hnum := num_any wc 0 (by unfold U64; decide)
    rw [show ((0 : Nat) : Int) = 0 from rfl] at hnum
    obtain ⟨hn0, hn8⟩ := numB_length 0
    have hB1 := hB2.trans (hbx.mono hB2.size)
    go_wp2_with (first
      | (go_at_call 45; refine hnum.mono ?_; rintro e w3 ⟨v1, rfl, ho1, hb3⟩; clear hnum; have hr1 := ho1.row; obtain ⟨a1, cap1, rfl, _, _, _⟩ := Bytes.open (xs := numB 0) hr1)
      | (go_at_call 40; have hlay := lay_head w3 _ _ hr1 rfl; refine hlay.mono ?_; clear hlay; rintro e w4 ⟨ah, ch, Bh, rfl, hoh, hs5, hs50, hb4⟩))
    have hb34 : Below wc.heap.size wc w4 := hb3.trans ((((Below.refl _ w3).alloc (Nat.le_refl _) _).trans (hb4.mono (by simp))).mono hb3.size)
    have hB0s : wc.heap.size < (w3.alloc (.cells #[.slice a1 (numB 0).length cap1] 23)).heap.size := by have := hb3.size; simp; omega
    have hB0 := hb4.size
    generalize hB0e : (w3.alloc (.cells #[.slice a1 (numB 0).length cap1] 23)).heap.size = B0 at *
    clear hB0e hb3 hb4 hr1 ho1
    have hw24 : Below w2.heap.size w2 w4 := hbx.trans (hb34.mono hbx.size)
    have hB4 := hB2.trans (hw24.mono hB2.size)
    obtain ⟨hA4, hE4⟩ := hAE w4 (hb2.trans (hw24.mono hb2.size))
    have hL4 := hlh.out.below hB4
    have hD4 := hDh.out.below hB4
    have hG4 := (hb34.block g hglt).trans hh
    have hLp := log_ne hL4 hD4
    have hLlt := lt_of hlh.out
    have hplt : p < w.heap.size := lt_of hDh.out.1.choose_spec
    have hmlt : mb < w.heap.size := hDh.out.2.lt
    have hs2 : w.heap.size + 1 < w2.heap.size := lt_of hE
    have hs2c := hbx.size
    have hownb := (hown.below hw24 (fun k hk => (hown.lt k hk).2)).row.drew
    have hohd := hoh.drew
    have hrec4 := trivial
    have hK4 : ∀ W, Keeps (fun x => (x = p ∨ x = mb) ∨ B0 ≤ x) w4 W → W.heap[w.heap.size]? = some (.cells #[.pointer (some ⟨L, 0, none⟩)] 25 (0, 0)) ∧ W.heap[w.heap.size + 1]? = some (.cells #[.int .i64 0] 26 (0, 0)) ∧ Log0 W L p name ∧
        W.heap[g]? = some (.cells #[.string nm, .int .u64 0, .slice none 0 0, .int .i64 0] 79 (0, 0)) := fun W hW => by
      refine ⟨(hW.block _ (by omega) (by omega)).trans hA4, (hW.block _ (by omega) (by omega)).trans hE4, (hW.block L (by omega) ?_).trans hL4, (hW.block g (by omega) (by omega)).trans hG4⟩
      have := hLp.1; have := hLp.2; omega
    have hS4 : ∀ W, Keeps (fun x => (x = p ∨ x = mb) ∨ B0 ≤ x) w4 W → W.cell? ⟨w.heap.size, 0, none⟩ = some (.pointer (some ⟨L, 0, none⟩)) ∧ W.cell? ⟨L, 0, none⟩ = some (.pointer (some ⟨p, 0, none⟩)) ∧ W.cell? ⟨g, 0, none⟩ = some (.string nm) := fun W hW => by
      obtain ⟨h1, _, h3, h4⟩ := hK4 W hW
      exact ⟨(cells_of h1 0).trans rfl, h3.cells.1, (cells_of h4 0).trans rfl⟩
    have hfe : Few ((bcells Bh).length + (bcells Bb).length) := by
      simp only [Few, bcells, List.length_map]; omega
    have hbb : bcells Bh ++ bcells Bb = bcells (Bh ++ Bb) := by simp [bcells]
    have hbl : (Bh ++ Bb).length ≤ 2000 ∧ 0 < (Bh ++ Bb).length := by
      simp only [List.length_append]; omega
    have hbb' := Lib.hid hbb; clear hbb
    have hsz4 := Lib.hid hB0
    have hK4h := Lib.hid hK4; clear hK4
    have hR4 : ∀ W, Keeps (fun x => (x = p ∨ x = mb) ∨ B0 ≤ x) w4 W → Bytes W (fun b => S b ∧ b < w.heap.size) (.slice a l.length cap) l := fun W hW => by
      refine (Row.lt hrow.out).keep ⟨by have := hB4.size; have := hW.size; omega, fun b hb hlt => ?_⟩
      have := hSd b hb.1
      exact (hW.block b (by have := hB4.size; omega) (by omega)).trans (hB4.block b hb.2)
    have hR4h := Lib.hid hR4; clear hR4
    go_cut [9] from 100 (fun s9 wx => s9 = .pointer (some ⟨g, 0, none⟩) ∧ Keeps (fun x => (x = p ∨ x = mb) ∨ B0 ≤ x) w4 wx)
    case first =>
      refine wp_region_noPanic ?_
      refine Plan.begin ((.load 0 (.take 1 (.take 2 (.load 3 (.take 4 (.load 5 (.take 6 (.take 7 (.eff 8 true (.eff 9 true (.eff 10 true .done)))))))))))) [0, 3, 5] (fun W => W.cell? ⟨w.heap.size, 0, none⟩ = some (.pointer (some ⟨L, 0, none⟩)) ∧ W.cell? ⟨L, 0, none⟩ = some (.pointer (some ⟨p, 0, none⟩)) ∧ W.cell? ⟨g, 0, none⟩ = some (.string nm)) (by kernel_rfl) (by kernel_rfl) (fun _ _ _ _ _ h => h) (by (try dsimp only); (first | exact hS4 _ (Keeps.refl _ _).drew | exact hS4 _ hk5 | exact hS4 _ hk6)) (fun hS => ?_)
      refine Plan.wp_load (i := 0) (v := ?_) rfl (by assumption) (by rfl) ?_ ?_
      rotate_left
      · (intro w hSw; (try dsimp only at hSw); go_simp; (try (first | with_reducible rfl | (rw [if_neg (by omega)]; (try with_reducible rfl)))))
      try simp only [Act.put, List.setIfInBounds_toArray, List.set_cons_zero, List.set_cons_succ]
      refine Plan.wp_take (i := 1) (v := ?_) rfl (by rfl) ?_ ?_
      rotate_left
      · (intro w; go_simp; (try (first | with_reducible rfl | (rw [if_neg (by omega)]; (try with_reducible rfl)))))
      try simp only [Act.put, List.setIfInBounds_toArray, List.set_cons_zero, List.set_cons_succ]
      refine Plan.wp_take (i := 2) (v := ?_) rfl (by rfl) ?_ ?_
      rotate_left
      · (intro w; go_simp; (try (first | with_reducible rfl | (rw [if_neg (by omega)]; (try with_reducible rfl)))))
      try simp only [Act.put, List.setIfInBounds_toArray, List.set_cons_zero, List.set_cons_succ]
      refine Plan.wp_load (i := 3) (v := ?_) rfl (by assumption) (by rfl) ?_ ?_
      rotate_left
      · (intro w hSw; (try dsimp only at hSw); go_simp; (try (first | with_reducible rfl | (rw [if_neg (by omega)]; (try with_reducible rfl)))))
      try simp only [Act.put, List.setIfInBounds_toArray, List.set_cons_zero, List.set_cons_succ]
      refine Plan.wp_take (i := 4) (v := ?_) rfl (by rfl) ?_ ?_
      rotate_left
      · (intro w; go_simp; (try (first | with_reducible rfl | (rw [if_neg (by omega)]; (try with_reducible rfl)))))
      try simp only [Act.put, List.setIfInBounds_toArray, List.set_cons_zero, List.set_cons_succ]
      refine Plan.wp_load (i := 5) (v := ?_) rfl (by assumption) (by rfl) ?_ ?_
      rotate_left
      · (intro w hSw; (try dsimp only at hSw); go_simp; (try (first | with_reducible rfl | (rw [if_neg (by omega)]; (try with_reducible rfl)))))
      try simp only [Act.put, List.setIfInBounds_toArray, List.set_cons_zero, List.set_cons_succ]
      refine Plan.wp_take (i := 6) (v := ?_) rfl (by rfl) ?_ ?_
      rotate_left
      · (intro w; go_simp; (try (first | with_reducible rfl | (rw [if_neg (by omega)]; (try with_reducible rfl)))))
      try simp only [Act.put, List.setIfInBounds_toArray, List.set_cons_zero, List.set_cons_succ]
      refine Plan.wp_take (i := 7) (v := ?_) rfl (by rfl) ?_ ?_
      rotate_left
      · (intro w; go_simp; (try (first | with_reducible rfl | (rw [if_neg (by omega)]; (try with_reducible rfl)))))
      try simp only [Act.put, List.setIfInBounds_toArray, List.set_cons_zero, List.set_cons_succ]
      refine Plan.wp_eff (i := 8) rfl (by rfl) (fun K hK => ?_)
      (refine wp_append_row (.tmp 106) (.tmp 107) _ _ el_bytes rfl rfl rfl hohd hownb hfe hsz4.out ?_; intro v5 w5 ho5 hb5 _ _; rw [hbb'.out] at ho5; have hk5 : Keeps (fun x => (x = p ∨ x = mb) ∨ B0 ≤ x) w4 w5 := ⟨hb5.os, hb5.tape, hb5.output, hb5.size, fun k _ hT => hb5.block k (by omega)⟩; have hD5 : Disk0 w5 p mb room := hD4.keepB (B := B0) (below_undrew hb5) (by omega) (by omega))
      refine hK.out _ _ ?_ (fun hS => ?_)
      · ((try dsimp only); (first | exact hS4 _ (Keeps.refl _ _).drew | exact hS4 _ hk5 | exact hS4 _ hk6))
      clear hK K
      try simp only [Act.put, List.setIfInBounds_toArray, List.set_cons_zero, List.set_cons_succ]
      refine Plan.wp_eff (i := 9) rfl (by rfl) (fun K hK => ?_)
      go_simp
      (first | (go_at_call 43; refine (write_0 w5 p mb room _ nm v5 _ hD5 hnm ho5.row hbl.2 (by have := hbl.1; simp only [Few]; omega) (by have := hbl.1; omega)).mono ?_; rintro e w6 ⟨rfl, hk6'⟩; have hk6 := hk5.trans (hk6'.mono fun _ h => Or.inl h); clear hk6') | (go_at_call 42; refine (must_ok _).mono ?_; rintro e w7 ⟨rfl, hw⟩; replace hw := hw.symm; subst hw))
      try dsimp only
      refine hK.out _ _ ?_ (fun hS => ?_)
      · ((try dsimp only); (first | exact hS4 _ (Keeps.refl _ _).drew | exact hS4 _ hk5 | exact hS4 _ hk6))
      clear hK K
      try simp only [Act.put, List.setIfInBounds_toArray, List.set_cons_zero, List.set_cons_succ]
      refine Plan.wp_eff (i := 10) rfl (by rfl) (fun K hK => ?_)
      go_simp
      (first | (go_at_call 43; refine (write_0 w5 p mb room _ nm v5 _ hD5 hnm ho5.row hbl.2 (by have := hbl.1; simp only [Few]; omega) (by have := hbl.1; omega)).mono ?_; rintro e w6 ⟨rfl, hk6'⟩; have hk6 := hk5.trans (hk6'.mono fun _ h => Or.inl h); clear hk6') | (go_at_call 42; refine (must_ok _).mono ?_; rintro e w7 ⟨rfl, hw⟩; replace hw := hw.symm; subst hw))
      try dsimp only
      refine hK.out _ _ ?_ (fun hS => ?_)
      · ((try dsimp only); (first | exact hS4 _ (Keeps.refl _ _).drew | exact hS4 _ hk5 | exact hS4 _ hk6))
      clear hK K
      try simp only [Act.put, List.setIfInBounds_toArray, List.set_cons_zero, List.set_cons_succ]
      refine Plan.wp_done ?_
      refine NoPanic.normal ?_
      rotate_left
      all_goals (go_wp2_with fail; go_meet; exact ⟨rfl, hk6⟩)
    case rest =>
      obtain ⟨rfl, hk6⟩ := hcut
      clear hS4 hohd hownb hfe hbb' hbl hrec4 hA4 hE4 hL4 hD4 hG4 g0 g1 hh hb2 hb34 hw24 hbx hA hE hAE
      obtain ⟨hA6, hE6, hL6, hG6⟩ := hK4h.out wc hk6
      have hR6 := hR4h.out wc hk6
      clear hK4h hR4h
      have cA := cells_of hA6 0
      have cG2 := cells_of hG6 2
      have cG3 := cells_of hG6 3
      have fG2 := frozen_of hG6 2
      have fG3 := frozen_of hG6 3
      have fL5 := frozen_of hL6 5
      obtain ⟨c0, c1, c2, c3, c4, c5, c6⟩ := hL6.cells
      simp only [List.getElem?_toArray, List.getElem?_cons_zero, List.getElem?_cons_succ] at cA cG2 cG3
      have lA := lt_of hA6
      have lL := lt_of hL6
      have lG := lt_of hG6
      have hwr1 : IntKind.i64.wrap (0 + 1) = 1 := by decide
      have hb1 : (Bh.length : Int) ≤ 100 := by omega
      have hb2 : (Bb.length : Int) ≤ 2000 := by omega
      go_wp2_with fail
      have hgL : g ≠ L := by omega
      have hK6 : Keeps (fun x => x = p ∨ x = mb ∨ x = L) w wc := by
        refine ⟨hk6.os.trans hB4.os, hk6.tape.trans hB4.tape, hk6.output.trans hB4.output, by have := hB4.size; have := hk6.size; omega, fun k hk hT => ?_⟩
        exact (hk6.block k (by have := hB4.size; omega) (by omega)).trans (hB4.block k hk)
      have hT6 : Tl w wc L p mb name S (.slice a l.length cap) l (.slice none 0 0) (.slice none 0 0) 0 := ⟨hA6, hE6, hL6, hR6, hK6, hLlt, hSd⟩
      have hT7 := ((((hT6.move (Keeps.cell1 wc g 3 (.int .i64 Bh.length)) (by omega)).move (Keeps.cell1 _ g 2 (.slice (some ⟨wc.heap.size, 0, none⟩) 1 1)) (by omega)).setLast 1).below ((Below.refl _ _).alloc (Nat.le_refl _) (.cells #[.int .i64 ((Bh.length : Int) + Bb.length)] 3)))
      have hG7 := (heap_alloc_old _ (.cells #[.int .i64 ((Bh.length : Int) + Bb.length)] 3) (by simp [World.setCell]; omega)).trans ((Below.heap_setCell _ ⟨L, 5, none⟩ (.int .i64 1) g hgL).trans (set_of (set_of hG6 3 (.int .i64 Bh.length)) 2 (.slice (some ⟨wc.heap.size, 0, none⟩) 1 1)))
      generalize ((((wc.setCell ⟨g, 3, none⟩ (.int .i64 Bh.length)).setCell ⟨g, 2, none⟩ (.slice (some ⟨wc.heap.size, 0, none⟩) 1 1)).setCell ⟨L, 5, none⟩ (.int .i64 1)).alloc (.cells #[.int .i64 ((Bh.length : Int) + Bb.length)] 3)) = W7 at hT7 hG7 ⊢
      clear hT6 hK6 hA6 hE6 hL6 hG6 hR6 cA cG2 cG3 fG2 fG3 fL5 c0 c1 c2 c3 c4 c5 c6 lA lL lG hk6
      simp at hG7
      have hT7h := Lib.hid hT7
      have cA := cells_of hT7.A 0
      have cL4 := cells_of hT7.O 4
      have fL4 := frozen_of hT7.O 4
      have cg0 := cells_of hG7 0
      have cg1 := cells_of hG7 1
      have cg2 := cells_of hG7 2
      have cg3 := cells_of hG7 3
      have lA := lt_of hT7.A
      have lL := lt_of hT7.O
      have lG := lt_of hG7
      simp only [List.getElem?_toArray, List.getElem?_cons_zero, List.getElem?_cons_succ] at cA cL4 cg0 cg1 cg2 cg3
      clear hT7
      go_cut [9] from 128 (fun s9 wx => s9 = .pointer (some ⟨g, 0, none⟩) ∧ ∃ sv, Tl w wx L p mb name S (.slice a l.length cap) l (.slice none 0 0) sv 1)
      case first =>
        refine wp_region_noPanic ?_
        refine Plan.begin ((.load 0 (.load 1 (.take 2 (.take 3 (.load 4 (.load 5 (.eff 6 true (.eff 7 true (.take 8 (.take 9 (.eff 10 false .done)))))))))))) [0, 1, 4, 5] (fun W => W.cell? ⟨w.heap.size, 0, none⟩ = some (.pointer (some ⟨L, 0, none⟩)) ∧ W.cell? ⟨L, 4, none⟩ = some (.slice none 0 0) ∧ W.cell? ⟨g, 0, none⟩ = some (.string nm) ∧ W.cell? ⟨g, 1, none⟩ = some (.int .u64 0) ∧ W.cell? ⟨g, 2, none⟩ = some (.slice (some ⟨wc.heap.size, 0, none⟩) 1 1) ∧ W.cell? ⟨g, 3, none⟩ = some (.int .i64 Bh.length)) (by kernel_rfl) (by kernel_rfl) (fun _ _ _ _ _ h => h) (by (try dsimp only); (first | go_keep | exact hS5)) (fun hS => ?_)
        refine Plan.wp_load (i := 0) (v := ?_) rfl (by assumption) (by rfl) ?_ ?_
        rotate_left
        · (intro w hSw; (try dsimp only at hSw); go_simp; (try (first | with_reducible rfl | (rw [if_neg (by omega)]; (try with_reducible rfl)))))
        try simp only [Act.put, List.setIfInBounds_toArray, List.set_cons_zero, List.set_cons_succ]
        refine Plan.wp_load (i := 1) (v := ?_) rfl (by assumption) (by rfl) ?_ ?_
        rotate_left
        · (intro w hSw; (try dsimp only at hSw); go_simp; (try (first | with_reducible rfl | (rw [if_neg (by omega)]; (try with_reducible rfl)))))
        try simp only [Act.put, List.setIfInBounds_toArray, List.set_cons_zero, List.set_cons_succ]
        refine Plan.wp_take (i := 2) (v := ?_) rfl (by rfl) ?_ ?_
        rotate_left
        · (intro w; go_simp; (try (first | with_reducible rfl | (rw [if_neg (by omega)]; (try with_reducible rfl)))))
        try simp only [Act.put, List.setIfInBounds_toArray, List.set_cons_zero, List.set_cons_succ]
        refine Plan.wp_take (i := 3) (v := ?_) rfl (by rfl) ?_ ?_
        rotate_left
        · (intro w; go_simp; (try (first | with_reducible rfl | (rw [if_neg (by omega)]; (try with_reducible rfl)))))
        try simp only [Act.put, List.setIfInBounds_toArray, List.set_cons_zero, List.set_cons_succ]
        refine Plan.wp_load (i := 4) (v := ?_) rfl (by assumption) (by rfl) ?_ ?_
        rotate_left
        · (intro w hSw; (try dsimp only at hSw); go_simp; (try (first | with_reducible rfl | (rw [if_neg (by omega)]; (try with_reducible rfl)))))
        try simp only [Act.put, List.setIfInBounds_toArray, List.set_cons_zero, List.set_cons_succ]
        refine Plan.wp_load (i := 5) (v := ?_) rfl (by assumption) (by rfl) ?_ ?_
        rotate_left
        · (intro w hSw; (try dsimp only at hSw); go_simp; (try (first | with_reducible rfl | (rw [if_neg (by omega)]; (try with_reducible rfl)))))
        try simp only [Act.put, List.setIfInBounds_toArray, List.set_cons_zero, List.set_cons_succ]
        refine Plan.wp_eff (i := 6) rfl (by rfl) (fun K hK => ?_)
        go_simp
        refine hK.out _ _ ?_ (fun hS => ?_)
        · ((try dsimp only); (first | go_keep | exact hS5))
        clear hK K
        try simp only [Act.put, List.setIfInBounds_toArray, List.set_cons_zero, List.set_cons_succ]
        refine Plan.wp_eff (i := 7) rfl (by rfl) (fun K hK => ?_)
        (refine wp_append_row (.tmp 132) (.tmp 134) (.slice none 0 0) _ el_segs rfl rfl rfl (Own.nil _ W7.heap.size _ _) (row_built 79 [.string nm, .int .u64 0, .slice (some ⟨wc.heap.size, 0, none⟩) 1 1, .int .i64 Bh.length] (by simp [Value.oneCell'])) (by simp [Few]) (by simp) ?_; intro v5 w5 ho5 hb5 _ _; simp only [List.nil_append] at ho5; obtain ⟨g5, c5, rfl, _, _⟩ := ho5.form1; clear ho5; have hb5' := ((Below.refl W7.heap.size W7).alloc (Nat.le_refl _) _).drew.trans hb5; clear hb5; have hT8 := hT7h.out.below hb5'; have cL5 := (hb5'.cell (p := ⟨L, 4, none⟩) lL).trans cL4; have fL5 := frozen_of hT8.O 4; have hS5 : w5.cell? ⟨w.heap.size, 0, none⟩ = _ ∧ w5.cell? ⟨L, 4, none⟩ = _ ∧ w5.cell? ⟨g, 0, none⟩ = _ ∧ w5.cell? ⟨g, 1, none⟩ = _ ∧ w5.cell? ⟨g, 2, none⟩ = _ ∧ w5.cell? ⟨g, 3, none⟩ = _ := ⟨(hb5'.cell (p := ⟨w.heap.size, 0, none⟩) lA).trans cA, cL5, (hb5'.cell (p := ⟨g, 0, none⟩) lG).trans cg0, (hb5'.cell (p := ⟨g, 1, none⟩) lG).trans cg1, (hb5'.cell (p := ⟨g, 2, none⟩) lG).trans cg2, (hb5'.cell (p := ⟨g, 3, none⟩) lG).trans cg3⟩; replace hT8 := Lib.hid hT8)
        refine hK.out _ _ ?_ (fun hS => ?_)
        · ((try dsimp only); (first | go_keep | exact hS5))
        clear hK K
        try simp only [Act.put, List.setIfInBounds_toArray, List.set_cons_zero, List.set_cons_succ]
        refine Plan.wp_take (i := 8) (v := ?_) rfl (by rfl) ?_ ?_
        rotate_left
        · (intro w; go_simp; (try (first | with_reducible rfl | (rw [if_neg (by omega)]; (try with_reducible rfl)))))
        try simp only [Act.put, List.setIfInBounds_toArray, List.set_cons_zero, List.set_cons_succ]
        refine Plan.wp_take (i := 9) (v := ?_) rfl (by rfl) ?_ ?_
        rotate_left
        · (intro w; go_simp; (try (first | with_reducible rfl | (rw [if_neg (by omega)]; (try with_reducible rfl)))))
        try simp only [Act.put, List.setIfInBounds_toArray, List.set_cons_zero, List.set_cons_succ]
        refine Plan.wp_last (i := 10) rfl (by rfl) (fun K hK => ?_)
        go_simp
        refine hK.out _ _ ?_
        clear hK K
        try simp only [Act.put, List.setIfInBounds_toArray, List.set_cons_zero, List.set_cons_succ]
        refine Plan.wp_done ?_
        refine NoPanic.normal ?_
        rotate_left
        all_goals (go_wp2_with fail; go_meet; exact ⟨rfl, _, hT8.out.setSegs _⟩)
      case rest =>
        clear cA cL4 fL4 cg0 cg1 cg2 cg3 lA lL lG hT7h hG7
        obtain ⟨rfl, sv, hT8⟩ := hcut
        have hT8h := Lib.hid hT8
        have cA := cells_of hT8.A 0
        have cL3 := cells_of hT8.O 3
        have fL3 := frozen_of hT8.O 3
        have lA := lt_of hT8.A
        have lL := lt_of hT8.O
        have hR8 := hT8.R
        simp only [List.getElem?_toArray, List.getElem?_cons_zero, List.getElem?_cons_succ] at cA cL3
        have hcl := clone_bytes wc.drew _ _ _ (Row.drew (hT8.R)) (by simp only [List.length_map, Few]; omega)
        have hwc2 : w.heap.size + 2 ≤ wc.heap.size := lt_of hT8.E
        clear hT8
        go_wp2_with fail
        go_cut [9] from 138 (fun s9 wx => ∃ sv rv, Tl w wx L p mb name S (.slice a l.length cap) l rv sv 1 ∧ Log1 w wx L p mb l)
        case first =>
          refine wp_region_noPanic ?_
          refine Plan.begin ((.load 0 (.load 1 (.take 2 (.take 3 (.load 4 (.take 5 (.eff 6 true (.eff 7 true (.eff 8 true (.take 9 (.take 10 (.eff 11 false .done))))))))))))) [0, 1, 4] (fun W => W.cell? ⟨w.heap.size, 0, none⟩ = some (.pointer (some ⟨L, 0, none⟩)) ∧ W.cell? ⟨L, 3, none⟩ = some (.slice none 0 0)) (by kernel_rfl) (by kernel_rfl) (fun _ _ _ _ _ h => h) (by (try dsimp only); (first | go_keep | exact hS5)) (fun hS => ?_)
          refine Plan.wp_load (i := 0) (v := ?_) rfl (by assumption) (by rfl) ?_ ?_
          rotate_left
          · (intro w hSw; (try dsimp only at hSw); go_simp; (try (first | with_reducible rfl | (rw [if_neg (by omega)]; (try with_reducible rfl)))))
          try simp only [Act.put, List.setIfInBounds_toArray, List.set_cons_zero, List.set_cons_succ]
          refine Plan.wp_load (i := 1) (v := ?_) rfl (by assumption) (by rfl) ?_ ?_
          rotate_left
          · (intro w hSw; (try dsimp only at hSw); go_simp; (try (first | with_reducible rfl | (rw [if_neg (by omega)]; (try with_reducible rfl)))))
          try simp only [Act.put, List.setIfInBounds_toArray, List.set_cons_zero, List.set_cons_succ]
          refine Plan.wp_take (i := 2) (v := ?_) rfl (by rfl) ?_ ?_
          rotate_left
          · (intro w; go_simp; (try (first | with_reducible rfl | (rw [if_neg (by omega)]; (try with_reducible rfl)))))
          try simp only [Act.put, List.setIfInBounds_toArray, List.set_cons_zero, List.set_cons_succ]
          refine Plan.wp_take (i := 3) (v := ?_) rfl (by rfl) ?_ ?_
          rotate_left
          · (intro w; go_simp; (try (first | with_reducible rfl | (rw [if_neg (by omega)]; (try with_reducible rfl)))))
          try simp only [Act.put, List.setIfInBounds_toArray, List.set_cons_zero, List.set_cons_succ]
          refine Plan.wp_load (i := 4) (v := ?_) rfl (by assumption) (by rfl) ?_ ?_
          rotate_left
          · (intro w hSw; (try dsimp only at hSw); go_simp; (try (first | with_reducible rfl | (rw [if_neg (by omega)]; (try with_reducible rfl)))))
          try simp only [Act.put, List.setIfInBounds_toArray, List.set_cons_zero, List.set_cons_succ]
          refine Plan.wp_take (i := 5) (v := ?_) rfl (by rfl) ?_ ?_
          rotate_left
          · (intro w; go_simp; (try (first | with_reducible rfl | (rw [if_neg (by omega)]; (try with_reducible rfl)))))
          try simp only [Act.put, List.setIfInBounds_toArray, List.set_cons_zero, List.set_cons_succ]
          refine Plan.wp_eff (i := 6) rfl (by rfl) (fun K hK => ?_)
          go_simp
          (go_at_call 30; refine hcl.mono ?_; rintro e w6 ⟨v6, rfl, hv6, hb6⟩; obtain ⟨a6, c6, rfl, _, _, _⟩ := Bytes.open (xs := l) hv6; have hb6' := (Below.refl wc.heap.size wc).drew.trans hb6; clear hb6; have lA6 : w.heap.size < w6.heap.size := Nat.lt_of_lt_of_le lA hb6'.size; have lL6 : L < w6.heap.size := Nat.lt_of_lt_of_le lL hb6'.size; have cA6 := (hb6'.cell (p := ⟨w.heap.size, 0, none⟩) lA).trans cA; have cL6 := (hb6'.cell (p := ⟨L, 3, none⟩) lL).trans cL3; have hS5 := And.intro cA6 cL6)
          try dsimp only
          refine hK.out _ _ ?_ (fun hS => ?_)
          · ((try dsimp only); (first | go_keep | exact hS5))
          clear hK K
          try simp only [Act.put, List.setIfInBounds_toArray, List.set_cons_zero, List.set_cons_succ]
          refine Plan.wp_eff (i := 7) rfl (by rfl) (fun K hK => ?_)
          go_simp
          refine hK.out _ _ ?_ (fun hS => ?_)
          · ((try dsimp only); (first | go_keep | exact hS5))
          clear hK K
          try simp only [Act.put, List.setIfInBounds_toArray, List.set_cons_zero, List.set_cons_succ]
          refine Plan.wp_eff (i := 8) rfl (by rfl) (fun K hK => ?_)
          (refine wp_append_row (.tmp 142) (.tmp 145) (.slice none 0 0) _ el_recs rfl rfl rfl (Own.nil _ w6.heap.size _ _) (row_built0 23 [.slice a6 l.length c6] (by simp [Value.oneCell'])) (by simp [Few]) (by simp) ?_; intro v8 w8 ho8 hb8 _ _; simp only [List.nil_append] at ho8; obtain ⟨g8, c8, rfl, hg8, _⟩ := ho8.form1; have hb8' := hb6'.trans ((((Below.refl w6.heap.size w6).alloc (Nat.le_refl _) _).trans hb8).mono hb6'.size); have hat8 := ho8.at1; have hv8 : Bytes w8 (fun b => w.heap.size + 2 ≤ b) (.slice a6 l.length c6) l := ((Row.mono hv6 (fun b hb => by simp at hb; omega)).keep (.of_below (((Below.refl w6.heap.size w6).alloc (Nat.le_refl _) _).trans hb8))); clear ho8 hb8 hv6; have hT9 := hT8h.out.below hb8'; have fL9 := frozen_of hT9.O 3; have hL9 := cells_of hT9.O 3; simp only [List.getElem?_toArray, List.getElem?_cons_zero, List.getElem?_cons_succ] at hL9; have hS5 := And.intro ((hb8'.cell (p := ⟨w.heap.size, 0, none⟩) lA).trans cA) hL9; have hg9 := Nat.le_trans hb6'.size hg8; replace hT9 := Lib.hid hT9; replace hv8 := Lib.hid hv8)
          refine hK.out _ _ ?_ (fun hS => ?_)
          · ((try dsimp only); (first | go_keep | exact hS5))
          clear hK K
          try simp only [Act.put, List.setIfInBounds_toArray, List.set_cons_zero, List.set_cons_succ]
          refine Plan.wp_take (i := 9) (v := ?_) rfl (by rfl) ?_ ?_
          rotate_left
          · (intro w; go_simp; (try (first | with_reducible rfl | (rw [if_neg (by omega)]; (try with_reducible rfl)))))
          try simp only [Act.put, List.setIfInBounds_toArray, List.set_cons_zero, List.set_cons_succ]
          refine Plan.wp_take (i := 10) (v := ?_) rfl (by rfl) ?_ ?_
          rotate_left
          · (intro w; go_simp; (try (first | with_reducible rfl | (rw [if_neg (by omega)]; (try with_reducible rfl)))))
          try simp only [Act.put, List.setIfInBounds_toArray, List.set_cons_zero, List.set_cons_succ]
          refine Plan.wp_last (i := 11) rfl (by rfl) (fun K hK => ?_)
          go_simp
          refine hK.out _ _ ?_
          clear hK K
          try simp only [Act.put, List.setIfInBounds_toArray, List.set_cons_zero, List.set_cons_succ]
          refine Plan.wp_done ?_
          refine NoPanic.normal ?_
          rotate_left
          all_goals (go_wp2_with fail; go_meet; exact ⟨_, _, hT9.out.setRecs _, log1_made hT9.out hat8 hv8.out (by omega)⟩)
        case rest =>
          obtain ⟨sv', rv', hT9, hL1⟩ := hcut
          have cE := cells_of hT9.E 0
          have fE := frozen_of hT9.E 0
          have lE := lt_of hT9.E
          simp only [List.getElem?_toArray, List.getElem?_cons_zero] at cE
          have cA := cells_of hT9.A 0
          simp only [List.getElem?_toArray, List.getElem?_cons_zero] at cA
          have hL1h := Lib.hid hL1
          have hA9 := hT9.A
          have hE9 := hT9.E
          clear hL1 hT9
          go_wp2_with fail
          have hL2 := hL1h.out.setE hLlt (.int .i64 0)
          have hA9' := (Below.heap_setCell wc ⟨w.heap.size + 1, 0, none⟩ (.int .i64 0) w.heap.size (by simp)).trans hA9
          have hE9' := set_of hE9 0 (.int .i64 0)
          generalize wc.setCell ⟨w.heap.size + 1, 0, none⟩ (.int .i64 0) = w9 at *
          have g1 := cells_of hA9' 0
          have g2 := cells_of hE9' 0
          simp at g1 g2
          refine leaves_cons (f := 39) (args := #[.pointer (some ⟨w.heap.size, 0, none⟩), .pointer (some ⟨w.heap.size + 1, 0, none⟩)]) (by simp) ?_ ?_
          · exact enters_of Tryz.func39 (by kernel_rfl) rfl _ _
          · refine (appendDeferred_idle w9 _ _ _ g1).mono ?_
            rintro e u' w' ⟨rfl, rfl, rfl⟩
            have g2' : w9.drew.cell? ⟨w.heap.size + 1, 0, none⟩ = _ := g2
            simp [Leaves, settle, results, Tryz.results14, go_sem, g2']
            exact hL2.drew
end Go.Proofs.YtfiplgplbjlpdaaGreatDoor
