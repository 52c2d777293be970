/- Contracts: crc.nibbles, More, Sum, grid.of, Join give some number of 32 bits and turn nothing that was there. -/
import Derived.Test.YtfiplgplbjlpdaaGreatDoorBin
import Derived.Laws.Closers25b
import Derived.Laws.MathBits
namespace Go.Proofs.YtfiplgplbjlpdaaGreatDoor
open Go.RowKit

/-- A number of 32 bits. -/
def U32 (x : Int) : Prop := 0 ≤ x ∧ x < 4294967296
/-- A row of n numbers of 32 bits. -/
def Words (n : Nat) (cs : Array Value) : Prop := cs.size = n ∧ ∀ i, i < n → ∃ x, U32 x ∧ cs[i]? = some (.int .u32 x)

theorem Words.zero (n : Nat) : Words n (Array.replicate n (.int .u32 0)) := ⟨by simp, fun i hi => ⟨0, ⟨by omega, by omega⟩, by simp [hi]⟩⟩
theorem Words.set {n : Nat} {cs : Array Value} (h : Words n cs) (k : Nat) {x : Int} (hx : U32 x) : Words n (cs.setIfInBounds k (.int .u32 x)) := by
  refine ⟨by simp [h.1], fun i hi => ?_⟩
  rw [Array.getElem?_setIfInBounds]
  split
  · rename_i e; subst e; exact ⟨x, hx, by simp [h.1, hi]⟩
  · exact h.2 i hi

theorem Words.one {n : Nat} {cs : Array Value} (h : Words n cs) : cs.all (·.oneCell') = true := by
  rw [Array.all_eq_true]
  intro i hi
  obtain ⟨x, _, hx⟩ := h.2 i (h.1 ▸ hi)
  rw [Array.getElem?_eq_getElem hi] at hx
  cases hx' : cs[i] <;> simp_all <;> rfl
theorem bits_u32 (op : BinOp) (a b : Int) : U32 (bits op .u32 a b) := ⟨bits_lo_u32 op a b, by have := bits_hi_u32 op a b; omega⟩
theorem and15 (x : Int) (h : U32 x) : bits .and .u32 x 15 = x % 16 := by
  obtain ⟨h0, h1⟩ := h
  go_bits2

theorem Words.at {cs : Array Value} (h : Words 16 cs) {w : World} {g : Nat} {t : TypeId} (hh : w.heap[g]? = some (.cells cs t (0, 0))) (X : Int) (hX : U32 X) :
    ∃ z, U32 z ∧ 0 ≤ bits .and .u32 X 15 ∧ bits .and .u32 X 15 < 16 ∧ w.cell? ⟨g, (bits .and .u32 X 15).toNat, none⟩ = some (.int .u32 z) := by
  have h0 := hX.1
  rw [and15 X hX]
  obtain ⟨z, hz, hc⟩ := h.2 (X % 16).toNat (by omega)
  exact ⟨z, hz, by omega, by omega, (cells_of hh _).trans hc⟩

set_option maxHeartbeats 1000000 in
theorem nibbles_any (w : World) : Calls Tryz.prog 110 #[] w fun e w' => ∃ cs, e = .returned (.agg cs) ∧ Words 16 cs ∧ Below w.heap.size w w' := by
  go_enter Tryz.func110, Tryz.ntmps110
  go_wp2
  go_loopw [3] (fun i wr => ∃ (k : Nat) (cs : Array Value), k ≤ 16 ∧ i = .int .i64 (k : Int) ∧ wr.heap[w.heap.size]? = some (.cells cs 150) ∧ Words 16 cs ∧ Below w.heap.size w wr) (fun i _ => (16 - intOf i).toNat)
  case atStart => exact ⟨0, _, by omega, rfl, heap_alloc_new _ _, Words.zero 16, (Below.refl _ _).alloc (Nat.le_refl _) _⟩
  case round =>
    obtain ⟨k, cs, hk, rfl, hh, hcs, hB⟩ := hrel
    have h16 := hcs.1
    by_cases hlt : k < 16
    · go_wp2
      go_loopw [2, 8] (fun c j w2 => ∃ (m : Nat) (x : Int), m ≤ 4 ∧ j = .int .i64 (m : Int) ∧ c = .int .u32 x ∧ U32 x ∧ w2 = wr) (fun _ j _ => (4 - intOf j).toNat)
      case atStart => exact ⟨0, _, by omega, rfl, rfl, ⟨by omega, by omega⟩, rfl⟩
      case round =>
        obtain ⟨m, x, hm, rfl, rfl, hx, rfl⟩ := hrel
        by_cases hmt : m < 4
        · go_wp2
          go_roundw
          case rel => exact ⟨m + 1, _, by omega, by simp, rfl, bits_u32 _ _ _, trivial⟩
          case measure => simp [intOf]; omega
        · obtain rfl : m = 4 := by omega
          obtain ⟨y, hy, hyc⟩ := hcs.2 k hlt
          have hc := (cells_of hh k).trans hyc
          have hf := frozen_of hh k
          go_wp2
          go_roundw
          case rel => exact ⟨k + 1, _, by omega, by simp, set_of hh _ _, hcs.set k hx, hB.setCell (p := ⟨w.heap.size, k, none⟩) (Nat.le_refl _) _⟩
          case measure => simp [intOf]; omega
    · obtain rfl : k = 16 := by omega
      go_wp2_with (first
        | (refine wpList_load_row rfl 150 (.tmp 0) rfl _ rfl 150 cs (0, 0) _ hh Tryz.underlying150 rfl (by rw [h16]; kernel_rfl) ?_)
        | (refine wpList_store_row rfl 150 (.tmp 0) (.tmp 22) rfl _ cs rfl rfl 150 cs hh (by rw [h16]; kernel_rfl) rfl hcs.one ?_))
      rw [setRow_self _ _ _ _ _ hh]
      exact bodyPost_ret (results_cell_row rfl _ _ w.heap.size 150 cs (0, 0) _ rfl hh Tryz.underlying150 rfl (by rw [h16]; kernel_rfl)) rfl ⟨cs, rfl, hcs, hB⟩

/-- A whole row is stored; what was there of others stays. -/
theorem wpList_store_rowK {P : Program} {ops : Array Oper} {rest : List Oper} {o : Oper} {a : Act} {w : World} {Q : Exit → Act → World → Prop} (hgd : o.guard = none) (ty : TypeId) (x y : Operand) (ho : o.op = .store ty x y)
    (g : Nat) (cells : Array Value) (hx : a.eval x = .pointer (some ⟨g, 0, none⟩)) (hy : a.eval y = .agg cells)
    (t : TypeId) (old : Array Value) (hg : w.heap[g]? = some (.cells old t (0, 0))) (hi : (P.info? ty).map (·.size) = some cells.size)
    (hold : old.size = cells.size) (h1 : cells.all (·.oneCell') = true)
    (h : ∀ w', w'.heap[g]? = some (.cells cells t (0, 0)) → Keeps (fun k => k = g) w w' → wpList P ops Q rest (a.put o.dst undef) w') : wpList P ops Q (o :: rest) a w :=
  wpList_store_row hgd ty x y ho g cells hx hy t old hg hi hold h1 (h _ (setRow_heap _ _ _ _ _ _ hg) ⟨rfl, rfl, rfl, by simp, fun k _ hk => setRow_other _ _ _ _ hk⟩)

set_option maxHeartbeats 1000000 in
theorem more_any (w : World) (S : Nat → Prop) (v : Value) (l : List UInt8) (s : Int) (hs : U32 s) (h : Bytes w S v l) :
    Calls Tryz.prog 112 #[.int .u32 s, v] w fun e w' => ∃ x, e = .returned (.int .u32 x) ∧ U32 x ∧ Below w.heap.size w w' := by
  have hrow := Lib.hid h
  obtain ⟨a, cap, rfl, hcap, hmax, ha⟩ := h.open
  clear h ha
  unfold maxLen at hmax
  go_enter Tryz.func112, Tryz.ntmps112
  go_wp2_with (first
    | (go_at_call 110; refine (nibbles_any _).mono ?_; rintro e w1 ⟨cs, rfl, hcs, hb1⟩)
    | (refine wpList_store_rowK rfl 150 (.tmp 5) (.tmp 9) rfl w1.heap.size cs rfl rfl 150 _ (heap_alloc_new _ _) (by rw [hcs.1]; kernel_rfl) (by rw [hcs.1]; rfl) hcs.one ?_; intro w2 hh hk2))
  have hB : Below w.heap.size w w2 := Keeps.below (hb1.alloc hb1.size _) hk2 (fun b hb => by subst hb; exact hb1.size) (by simp; have := hb1.size; omega)
  have h16 := hcs.1
  have hrow2 := hrow.out.keep (.of_below hB)
  clear hrow
  go_loopw [6, 14] (fun c j wr => ∃ (m : Nat) (x : Int), m ≤ l.length ∧ j = .int .i64 (m : Int) ∧ c = .int .u32 x ∧ U32 x ∧ wr = w2) (fun _ j _ => ((l.length : Int) - intOf j).toNat)
  case atStart => exact ⟨0, _, by omega, rfl, rfl, bits_u32 _ _ _, rfl⟩
  case round =>
    obtain ⟨m, x, hm, rfl, rfl, hx, rfl⟩ := hrel
    by_cases hmt : m < l.length
    · obtain ⟨a', cap', he, _, _, ha⟩ := hrow2.open
      cases he
      rcases ha with ⟨rfl, rfl⟩ | ⟨b, o, rfl, _, hb, hc⟩
      · omega
      · have hcm := hc m _ (List.getElem?_eq_getElem hmt)
        have h255 := (l[m]).toNat_lt
        generalize (l[m]).toNat = y at hcm h255
        clear hc
        have hy : U32 (bits .xor .u32 x y) := bits_u32 _ _ _
        generalize hX : bits .xor .u32 x y = X at hy
        obtain ⟨z, hz, hi0, hi1, hzc⟩ := hcs.at hh X hy
        have hY : U32 (bits .xor .u32 (X / 16) z) := bits_u32 _ _ _
        generalize hYe : bits .xor .u32 (X / 16) z = Y at hY
        obtain ⟨z2, hz2, hj0, hj1, hzc2⟩ := hcs.at hh Y hY
        go_wp2
        go_roundw
        case rel => exact ⟨m + 1, _, by omega, by simp, rfl, bits_u32 _ _ _, trivial⟩
        case measure => simp [intOf]; omega
    · obtain rfl : m = l.length := by omega
      go_wp2
      go_ret
      exact ⟨_, rfl, bits_u32 _ _ _, hB⟩

theorem sum_any (w : World) (S : Nat → Prop) (v : Value) (l : List UInt8) (h : Bytes w S v l) :
    Calls Tryz.prog 84 #[v] w fun e w' => ∃ x, e = .returned (.int .u32 x) ∧ U32 x ∧ Below w.heap.size w w' := by
  go_enter Tryz.func84, Tryz.ntmps84
  go_wp2_with (go_at_call 112; refine (more_any _ S v l 0 ⟨by omega, by omega⟩ h).mono ?_; rintro e w1 ⟨x, rfl, hx, hb1⟩)
  go_ret
  exact ⟨_, rfl, hx, hb1⟩

/-- A grid's sum over the bits of a number. -/
theorem of_any (w : World) (g : Nat) (t : TypeId) (cs : Array Value) (c : Int) (hc : U32 c) (hh : w.heap[g]? = some (.cells cs t (0, 0))) (hcs : Words 32 cs) :
    Calls Tryz.prog 111 #[.pointer (some ⟨g, 0, none⟩), .int .u32 c] w fun e w' => ∃ x, e = .returned (.int .u32 x) ∧ U32 x ∧ w' = w := by
  go_enter Tryz.func111, Tryz.ntmps111
  go_wp2
  go_loopw [1, 4, 5] (fun c s i wr => ∃ (m : Nat) (x y : Int), c = .int .u32 x ∧ s = .int .u32 y ∧ i = .int .i64 (m : Int) ∧ m ≤ 32 ∧ 0 ≤ x ∧ x < 2 ^ (32 - m) ∧ U32 y ∧ wr = w) (fun _ _ i _ => (32 - intOf i).toNat)
  case atStart => exact ⟨0, _, _, rfl, rfl, rfl, by omega, hc.1, hc.2, ⟨by omega, by omega⟩, rfl⟩
  case round =>
    obtain ⟨m, x, y, rfl, rfl, rfl, hm, hx0, hx1, hy, rfl⟩ := hrel
    by_cases hz : x = 0
    · subst hz
      go_wp2
      go_ret
      exact ⟨_, rfl, hy, rfl⟩
    · have hm32 : m < 32 := by
        rcases Nat.lt_or_ge m 32 with h | h
        · exact h
        · obtain rfl : m = 32 := by omega
          simp at hx1; omega
      have hp : (2 : Int) ^ (32 - m) = 2 * 2 ^ (32 - (m + 1)) := by
        rw [show 32 - m = (32 - (m + 1)) + 1 by omega, Int.pow_succ]; omega
      have hx2 : x / 2 < 2 ^ (32 - (m + 1)) := by
        generalize (2 : Int) ^ (32 - (m + 1)) = q at *
        omega
      have hX := Lib.hid hx2
      have hX1 := Lib.hid hx1
      clear hp hx1 hx2
      obtain ⟨z, hz, hzc⟩ := hcs.2 m hm32
      have hcell := (cells_of hh m).trans hzc
      clear hzc
      by_cases hb : bits .and .u32 x 1 = 1
      · go_wp2
        go_roundw
        case rel => exact ⟨m + 1, _, _, rfl, rfl, by simp, by omega, by omega, hX.out, bits_u32 _ _ _, trivial⟩
        case measure => simp [intOf]; omega
      · go_wp2
        go_roundw
        case rel => exact ⟨m + 1, _, _, rfl, rfl, by simp, by omega, by omega, hX.out, hy, trivial⟩
        case measure => simp [intOf]; omega

end Go.Proofs.YtfiplgplbjlpdaaGreatDoor
