/- Contracts: (*disk.Disk).wait, Write: into a disk without files. -/
import Derived.Test.YtfiplgplbjlpdaaGreatDoorDiskDo
import Derived.Test.YtfiplgplbjlpdaaGreatDoorDiskB
import Derived.Deep.AppendLies
import Derived.Test.YtfiplgplbjlpdaaGreatDoorReg
namespace Go.Proofs.YtfiplgplbjlpdaaGreatDoor
open Go.RowKit Go.Maps
attribute [local go_sem ↓] Go.wp_at_zero Go.wp_at_succ

theorem el_deeds : Elem Tryz.prog 73 92 5 72 := .of (by kernel_rfl) (by kernel_rfl) (by decide) (by decide)

theorem Disk0.ne {w : World} {p mb : Nat} {room : Int} (h : Disk0 w p mb room) : p ≠ mb := by
  obtain ⟨⟨sb, h1⟩, es, c, h3, _⟩ := h
  intro e
  subst e
  rw [h1] at h3
  simp at h3

set_option maxHeartbeats 2000000 in
theorem wait_write (w : World) (p mb : Nat) (room : Int) (S : Nat → Prop) (name to : ByteArray) (k : Nat) (v : Value) (b : List UInt8)
    (h : Disk0 w p mb room) (hs : name.size ≤ maxLen) (hb : Bytes w S v b) (hb0 : 0 < b.length) (hk : Few k) (hbl : Few b.length) :
    Calls Tryz.prog 86 #[.pointer (some ⟨p, 0, none⟩), .agg #[.int .i64 119, .string name, .string to, .int .i64 (k : Int), v]] w fun e w' => e = .returned (.int .i64 0) ∧ Keeps (fun x => x = p ∨ x = mb) w w' := by
  obtain ⟨a, cap, rfl, _, _, _⟩ := hb.open
  have hm : mb < w.heap.size := h.2.lt
  have hpl : p < w.heap.size := lt_of h.1.choose_spec
  have hB0 : Below w.heap.size w (w.alloc (.cells #[.int .i64 119, .string name, .string to, .int .i64 (k : Int), .slice a b.length cap] 92)) := (Below.refl _ w).alloc (Nat.le_refl _) _
  have hWbh := heap_alloc_new w (.cells #[.int .i64 119, .string name, .string to, .int .i64 (k : Int), .slice a b.length cap] 92)
  have hWbs : (w.alloc (.cells #[.int .i64 119, .string name, .string to, .int .i64 (k : Int), .slice a b.length cap] 92)).heap.size = w.heap.size + 1 := by simp
  have hgo : ∀ e : Prop, e → e := fun _ h => h
  go_enter Tryz.func86, Tryz.ntmps86
  go_wp2_with (go_at_call 89; refine (burn_0 _ p mb room (h.below ((Below.refl _ w).alloc (Nat.le_refl _) _))).mono ?_; rintro e w1 ⟨rfl, rfl⟩)
  generalize w.alloc (.cells #[.int .i64 119, .string name, .string to, .int .i64 (k : Int), .slice a b.length cap] 92) = Wb at *
  have hD := h.below hB0
  have hbB := hb.keep (.of_below hB0)
  obtain ⟨c0, c2, c3, c4, c5⟩ := hD.cells
  have d0 := cells_of hWbh 0
  have d1 := cells_of hWbh 1
  have d2 := cells_of hWbh 2
  have d3 := cells_of hWbh 3
  have d4 := cells_of hWbh 4
  simp only [List.getElem?_toArray, List.getElem?_cons_zero, List.getElem?_cons_succ] at d0 d1 d2 d3 d4
  have hdo := fun W (hW : Below Wb.heap.size Wb W) => do_write W S mb 0 (.map []) name to k (.slice a b.length cap) (.slice none 0 0) [] b (TextMap.below hD.2 hW (Nat.le_refl _)) (by decide) hs rfl .nil (hbB.keep (.of_below hW)) hb0 hk hbl (by simp [Few])
  have hH := Lib.hid h; have hs' := Lib.hid hs; have hD' := Lib.hid hD
  clear h hs hD hbB hb
  have hkc : ∀ W (q : Addr) (u : Value), Keeps (· = mb) Wb W → q.block ≠ mb → q.block < Wb.heap.size → Wb.cell? q = some u → W.cell? q = some u := fun W q u hK hq hlt hc => by
    rw [World.cell?_of_block (w := Wb) (hK.block q.block hlt hq)]; exact hc
  have hne : p ≠ mb := hD'.out.ne
  have hne2 : w.heap.size ≠ mb := by omega
  have hpl2 : p < Wb.heap.size := by omega
  have hwl2 : w.heap.size < Wb.heap.size := by omega
  have hS : ∀ W, Keeps (· = mb) Wb W → (W.cell? ⟨p, 0, none⟩ = some (.map (some mb)) ∧ W.cell? ⟨w.heap.size, 0, none⟩ = some (.int .i64 119) ∧ W.cell? ⟨w.heap.size, 1, none⟩ = some (.string name) ∧ W.cell? ⟨w.heap.size, 2, none⟩ = some (.string to) ∧ W.cell? ⟨w.heap.size, 3, none⟩ = some (.int .i64 (k : Int)) ∧ W.cell? ⟨w.heap.size, 4, none⟩ = some (.slice a b.length cap)) := fun W hK => ⟨hkc W ⟨p, 0, none⟩ _ hK hne hpl2 c0, hkc W ⟨w.heap.size, 0, none⟩ _ hK hne2 hwl2 d0, hkc W ⟨w.heap.size, 1, none⟩ _ hK hne2 hwl2 d1, hkc W ⟨w.heap.size, 2, none⟩ _ hK hne2 hwl2 d2, hkc W ⟨w.heap.size, 3, none⟩ _ hK hne2 hwl2 d3, hkc W ⟨w.heap.size, 4, none⟩ _ hK hne2 hwl2 d4⟩
  go_region_held3 (fun w' => w'.cell? ⟨p, 0, none⟩ = some (.map (some mb)) ∧ w'.cell? ⟨w.heap.size, 0, none⟩ = some (.int .i64 119) ∧ w'.cell? ⟨w.heap.size, 1, none⟩ = some (.string name) ∧ w'.cell? ⟨w.heap.size, 2, none⟩ = some (.string to) ∧ w'.cell? ⟨w.heap.size, 3, none⟩ = some (.int .i64 (k : Int)) ∧ w'.cell? ⟨w.heap.size, 4, none⟩ = some (.slice a b.length cap))
    (first | go_keep | exact hS _ hk2)
    ((go_at_call 58; refine (hdo _ (Below.refl _ _).drew).mono ?_; rintro e W2 ⟨rfl, v', hm2, hv2, hk2'⟩; have hk2 : Keeps (· = mb) Wb W2 := (Keeps.refl (· = mb) Wb).drew.trans hk2'; clear hk2'))
  have hp2 : ∃ sb, W2.heap[p]? = some (.cells #[.map (some mb), .map (some sb), .slice none 0 0, .int .i64 room, .int .i64 (-1), .bool false] 75 (0, 0)) := by
    obtain ⟨⟨sb, h1⟩, _⟩ := hD'.out
    exact ⟨sb, (hk2.block p hpl2 hne).trans h1⟩
  obtain ⟨sb, hp2⟩ := hp2
  have g2 := cells_of hp2 2
  have gf := frozen_of hp2 2
  simp only [List.getElem?_toArray, List.getElem?_cons_zero, List.getElem?_cons_succ] at g2
  obtain ⟨e0, e1, e2, e3, e4, e5⟩ := hS W2 hk2
  have hlt2 : p < W2.heap.size := lt_of hp2
  have hlt3 : w.heap.size < W2.heap.size := Nat.lt_of_lt_of_le hwl2 hk2.size
  have n1 : W2.heap.size ≠ p := by omega
  have n2 : W2.heap.size ≠ w.heap.size := by omega
  obtain ⟨i, z, hi, hz, h4, h5, h6⟩ := el_deeds.info
  have hi' := Lib.hid hi; have hz' := Lib.hid hz; have h4' := Lib.hid h4; have h5' := Lib.hid h5; have h6' := Lib.hid h6
  clear hi hz h4 h5 h6 c0 c2 c3 c4 c5 d0 d1 d2 d3 d4 hS hdo
  have gfA : ∀ o, (W2.alloc o).drew.frozen? ⟨p, 2, none⟩ = false := fun o => frozen_of (w := (W2.alloc o).drew) ((heap_alloc_old W2 o hlt2).trans hp2) 2
  have hbW : ∀ W, Below W2.heap.size W2 W → (W.cell? ⟨p, 2, none⟩ = some (.slice none 0 0) ∧ W.frozen? ⟨p, 2, none⟩ = false ∧ W.cell? ⟨w.heap.size, 0, none⟩ = some (.int .i64 119) ∧ W.cell? ⟨w.heap.size, 1, none⟩ = some (.string name) ∧ W.cell? ⟨w.heap.size, 2, none⟩ = some (.string to) ∧ W.cell? ⟨w.heap.size, 3, none⟩ = some (.int .i64 (k : Int)) ∧ W.cell? ⟨w.heap.size, 4, none⟩ = some (.slice a b.length cap)) := fun W hW => by
    refine ⟨(hW.cell (p := ⟨p, 2, none⟩) hlt2).trans g2, frozen_of ((hW.block p hlt2).trans hp2) 2, ?_, ?_, ?_, ?_, ?_⟩
    · exact (hW.cell (p := ⟨w.heap.size, 0, none⟩) hlt3).trans e1
    · exact (hW.cell (p := ⟨w.heap.size, 1, none⟩) hlt3).trans e2
    · exact (hW.cell (p := ⟨w.heap.size, 2, none⟩) hlt3).trans e3
    · exact (hW.cell (p := ⟨w.heap.size, 3, none⟩) hlt3).trans e4
    · exact (hW.cell (p := ⟨w.heap.size, 4, none⟩) hlt3).trans e5
  have hnew := heap_alloc_new W2 (.cells #[.int .i64 119, .string name, .string to, .int .i64 (k : Int), .slice a b.length cap] 92)
  have hnews : ∀ (j : Nat) u, ([.int .i64 119, .string name, .string to, .int .i64 (k : Int), .slice a b.length cap] : List Value)[j]? = some u → (W2.alloc (.cells #[.int .i64 119, .string name, .string to, .int .i64 (k : Int), .slice a b.length cap] 92)).drew.cell? ((⟨W2.heap.size, 0, none⟩ : Addr).add j) = some u := fun j u hj => by
    have h1 := cells_of (w := (W2.alloc (.cells #[.int .i64 119, .string name, .string to, .int .i64 (k : Int), .slice a b.length cap] 92)).drew) hnew j
    have h2 : (⟨W2.heap.size, 0, none⟩ : Addr).add j = ⟨W2.heap.size, j, none⟩ := by unfold Addr.add; split <;> simp_all
    rw [h2, h1]; simpa using hj
  have hB3 := (Below.refl W2.heap.size W2).alloc (Nat.le_refl _) (.cells #[.int .i64 119, .string name, .string to, .int .i64 (k : Int), .slice a b.length cap] 92)
  clear hnew
  go_wp2
  have hpw : p ≠ w.heap.size := by omega
  have hpw2 : w.heap.size ≠ p := by omega
  refine wp_region_noPanic ?_
  refine Plan.begin ((.take 0 (.take 1 (.take 2 (.take 3 (.load 4 (.load 5 (.eff 6 true (.eff 7 true (.take 8 (.take 9 (.eff 10 false .done)))))))))))) [4, 5] (fun W => W.cell? ⟨p, 2, none⟩ = some (.slice none 0 0) ∧ W.frozen? ⟨p, 2, none⟩ = false ∧ W.cell? ⟨w.heap.size, 0, none⟩ = some (.int .i64 119) ∧ W.cell? ⟨w.heap.size, 1, none⟩ = some (.string name) ∧ W.cell? ⟨w.heap.size, 2, none⟩ = some (.string to) ∧ W.cell? ⟨w.heap.size, 3, none⟩ = some (.int .i64 (k : Int)) ∧ W.cell? ⟨w.heap.size, 4, none⟩ = some (.slice a b.length cap)) (by kernel_rfl) (by kernel_rfl) (fun _ _ _ _ _ h => h) (by (try dsimp only); (first | go_keep | exact hbW _ hB4)) (fun hS => ?_)
  refine Plan.wp_take (i := 0) (v := ?_) rfl (by rfl) ?_ ?_
  rotate_left
  · (intro w; go_simp; (try (first | with_reducible rfl | (rw [if_neg (by omega)]; (try with_reducible rfl)))))
  try simp only [Act.put, List.setIfInBounds_toArray, List.set_cons_zero, List.set_cons_succ]
  refine Plan.wp_take (i := 1) (v := ?_) rfl (by rfl) ?_ ?_
  rotate_left
  · (intro w; go_simp; (try (first | with_reducible rfl | (rw [if_neg (by omega)]; (try with_reducible rfl)))))
  try simp only [Act.put, List.setIfInBounds_toArray, List.set_cons_zero, List.set_cons_succ]
  refine Plan.wp_take (i := 2) (v := ?_) rfl (by rfl) ?_ ?_
  rotate_left
  · (intro w; go_simp; (try (first | with_reducible rfl | (rw [if_neg (by omega)]; (try with_reducible rfl)))))
  try simp only [Act.put, List.setIfInBounds_toArray, List.set_cons_zero, List.set_cons_succ]
  refine Plan.wp_take (i := 3) (v := ?_) rfl (by rfl) ?_ ?_
  rotate_left
  · (intro w; go_simp; (try (first | with_reducible rfl | (rw [if_neg (by omega)]; (try with_reducible rfl)))))
  try simp only [Act.put, List.setIfInBounds_toArray, List.set_cons_zero, List.set_cons_succ]
  refine Plan.wp_load (i := 4) (v := ?_) rfl (by assumption) (by rfl) ?_ ?_
  rotate_left
  · (intro w hSw; (try dsimp only at hSw); go_simp; (try (first | with_reducible rfl | (rw [if_neg (by omega)]; (try with_reducible rfl)))))
  try simp only [Act.put, List.setIfInBounds_toArray, List.set_cons_zero, List.set_cons_succ]
  refine Plan.wp_load (i := 5) (v := ?_) rfl (by assumption) (by rfl) ?_ ?_
  rotate_left
  · (intro w hSw; (try dsimp only at hSw); go_simp; (try (first | with_reducible rfl | (rw [if_neg (by omega)]; (try with_reducible rfl)))))
  try simp only [Act.put, List.setIfInBounds_toArray, List.set_cons_zero, List.set_cons_succ]
  refine Plan.wp_eff (i := 6) rfl (by rfl) (fun K hK => ?_)
  go_simp
  refine hK.out _ _ ?_ (fun hS => ?_)
  · ((try dsimp only); (first | go_keep | exact hbW _ hB4))
  clear hK K
  try simp only [Act.put, List.setIfInBounds_toArray, List.set_cons_zero, List.set_cons_succ]
  refine Plan.wp_eff (i := 7) rfl (by rfl) (fun K hK => ?_)
  (refine wp_append_row (.tmp 18) (.tmp 20) (.slice none 0 0) _ el_deeds rfl rfl rfl (Own.nil _ W2.heap.size _ _) (row_built 92 [.int .i64 119, .string name, .string to, .int .i64 (k : Int), .slice a b.length cap] (by simp [Value.oneCell'])) (by simp [Few]) (by simp) ?_; intro v4 W4 ho4 hb4 _ _; simp only [List.nil_append] at ho4; obtain ⟨g4, c4', rfl, _, _⟩ := ho4.form1; clear ho4; have hB4 : Below W2.heap.size W2 W4 := ((Below.refl W2.heap.size W2).alloc (Nat.le_refl _) _).drew.trans hb4; clear hb4; have hc4 := (hbW _ hB4).1; have hf4 := (hbW _ hB4).2.1)
  refine hK.out _ _ ?_ (fun hS => ?_)
  · ((try dsimp only); (first | go_keep | exact hbW _ hB4))
  clear hK K
  try simp only [Act.put, List.setIfInBounds_toArray, List.set_cons_zero, List.set_cons_succ]
  refine Plan.wp_take (i := 8) (v := ?_) rfl (by rfl) ?_ ?_
  rotate_left
  · (intro w; go_simp; (try (first | with_reducible rfl | (rw [if_neg (by omega)]; (try with_reducible rfl)))))
  try simp only [Act.put, List.setIfInBounds_toArray, List.set_cons_zero, List.set_cons_succ]
  refine Plan.wp_take (i := 9) (v := ?_) rfl (by rfl) ?_ ?_
  rotate_left
  · (intro w; go_simp; (try (first | with_reducible rfl | (rw [if_neg (by omega)]; (try with_reducible rfl)))))
  try simp only [Act.put, List.setIfInBounds_toArray, List.set_cons_zero, List.set_cons_succ]
  refine Plan.wp_last (i := 10) rfl (by rfl) (fun K hK => ?_)
  go_simp
  refine hK.out _ _ ?_
  clear hK K
  try simp only [Act.put, List.setIfInBounds_toArray, List.set_cons_zero, List.set_cons_succ]
  refine Plan.wp_done ?_
  refine NoPanic.normal ?_
  rotate_left
  all_goals
    go_wp2
    go_ret
    refine ⟨rfl, ?_⟩
    exact ((((Keeps.of_below hB0).trans (hk2.mono fun _ h => .inr h)).trans (.of_below hB4)).setCell ⟨p, 2, none⟩ (.inl rfl) _)
end Go.Proofs.YtfiplgplbjlpdaaGreatDoor
