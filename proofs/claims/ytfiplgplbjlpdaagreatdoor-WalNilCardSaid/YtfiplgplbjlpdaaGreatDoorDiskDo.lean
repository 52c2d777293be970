/- Contract: (disk.files).do: a write. -/
import Derived.Test.YtfiplgplbjlpdaaGreatDoorDiskA
import Derived.Deep.RegionHeld3
import Derived.Deep.DrawnRows
import Derived.Laws.CopyOwn
import Derived.Deep.OwnRows
namespace Go.Proofs.YtfiplgplbjlpdaaGreatDoor
open Go.RowKit Go.Maps
attribute [local go_sem ↓] Go.wp_at_zero Go.wp_at_succ

/-- Some bytes with others put over them from a place on. -/
def over (old : List UInt8) (at_ : Nat) (b : List UInt8) : List UInt8 :=
  (old ++ List.replicate (at_ + b.length - old.length) 0).take at_ ++ b ++ (old ++ List.replicate (at_ + b.length - old.length) 0).drop (at_ + b.length)

/-- Bytes as values. -/
def bval (l : List UInt8) : List Value := l.map fun (x : UInt8) => .int .u8 (x.toNat : Int)
theorem Bytes.src {w : World} {S : Nat → Prop} {v : Value} {l : List UInt8} (h : Bytes w S v l) :
    ∃ sp cap, v = .slice sp l.length cap ∧ (0 < l.length → ∃ ad, sp = some ad ∧ ∀ (j : Nat) x, (bval l)[j]? = some x → w.cell? (ad.add j) = some x) := by
  obtain ⟨a, cap, rfl, hcap, _, ha⟩ := h.open
  refine ⟨a, cap, rfl, fun h0 => ?_⟩
  rcases ha with ⟨rfl, h1⟩ | ⟨b, o, rfl, _, _, hc⟩
  · omega
  · refine ⟨⟨b, o, none⟩, rfl, fun j x hx => ?_⟩
    simp only [bval, List.getElem?_map, Option.map_eq_some_iff] at hx
    obtain ⟨y, hy, rfl⟩ := hx
    have := hc j y hy
    simp only [Addr.add]
    split
    · rename_i h0; subst h0; simpa using this
    · simpa using this
/-- copy(d, s) of bytes into a block of the call's own. -/
theorem wpList_copy_bytes {P : Program} {w : World} {ops : Array Oper} {rest : List Oper} {o : Oper} {a : Act} {Q : Exit → Act → World → Prop} (hgd : o.guard = none) (d s : Operand) (T : TypeId)
    (ho : o.op = .call { callee := .builtin .copy, args := #[d, s], argTypes := #[T, T] }) (elem : TypeId) (hu : P.underlying T = some (.slice elem)) (hsz : (P.info? elem).map (·.size) = some 1)
    (g off dLen dCap : Nat) (hd : a.eval d = .slice (some ⟨g, off, none⟩) dLen dCap) {v : Value} (hs : a.eval s = v) {S : Nat → Prop} {l : List UInt8} (hsrc : Bytes w S v l) (hle : l.length ≤ dLen)
    (cur : List Value) (t : TypeId) (hg : w.heap[g]? = some (.cells cur.toArray t (0, 0))) (hfit : off + l.length ≤ cur.length) (B : Nat) (w0 : World) (hb : Below B w0 w) (hBg : B ≤ g)
    (h : ∀ w', Hid (w'.heap[g]? = some (.cells (splice cur off (bval l)).toArray t (0, 0))) → Below B w0 w' → wpList P ops Q rest (a.put o.dst (goInt l.length)) w') : wpList P ops Q (o :: rest) a w := by
  obtain ⟨sp, cap, rfl, hp⟩ := hsrc.src
  have hl : (bval l).length = l.length := by simp [bval]
  refine wpList_copy_splice hgd d s T T ho elem hu hsz (some ⟨g, off, none⟩) sp dLen dCap l.length cap hd hs g off cur t hg (bval l) (by rw [hl]; exact (Nat.min_eq_left hle).symm) (fun h0 => ⟨rfl, hp (by omega)⟩) (by omega) ?_ B w0 hb hBg ?_
  · intro u hu
    simp only [bval, List.mem_map] at hu
    obtain ⟨x, _, rfl⟩ := hu
    rfl
  · rw [hl]; exact h

/-- .. at a step of a region that draws its order. -/
theorem step_copy_bytes {P : Program} {w : World} {ops : Array Oper} {o : Oper} {a : Act} {K : Act → World → Prop} {Q : Exit → Act → World → Prop} {E : Prop} (hgd : o.guard = none) (d s : Operand) (T : TypeId)
    (ho : o.op = .call { callee := .builtin .copy, args := #[d, s], argTypes := #[T, T] }) (elem : TypeId) (hu : P.underlying T = some (.slice elem)) (hsz : (P.info? elem).map (·.size) = some 1)
    (g off dLen dCap : Nat) (hd : a.eval d = .slice (some ⟨g, off, none⟩) dLen dCap) {v : Value} (hs : a.eval s = v) {S : Nat → Prop} {l : List UInt8} (hsrc : Bytes w S v l) (hle : l.length ≤ dLen)
    (cur : List Value) (t : TypeId) (hg : w.heap[g]? = some (.cells cur.toArray t (0, 0))) (hfit : off + l.length ≤ cur.length) (B : Nat) (w0 : World) (hb : Below B w0 w) (hBg : B ≤ g)
    (h : ∀ w', Hid (w'.heap[g]? = some (.cells (splice cur off (bval l)).toArray t (0, 0))) → Below B w0 w' → K (a.put o.dst (goInt l.length)) w') : if Region.wanted o (yielded ops a.tmps) = true then Oper.wp P o a w K Q else E := by
  obtain ⟨sp, cap, rfl, hp⟩ := hsrc.src
  have hl : (bval l).length = l.length := by simp [bval]
  refine step_copy_splice hgd d s T T ho elem hu hsz (some ⟨g, off, none⟩) sp dLen dCap l.length cap hd hs g off cur t hg (bval l) (by rw [hl]; exact (Nat.min_eq_left hle).symm) (fun h0 => ⟨rfl, hp (by omega)⟩) (by omega) ?_ B w0 hb hBg ?_
  · intro u hu
    simp only [bval, List.mem_map] at hu
    obtain ⟨x, _, rfl⟩ := hu
    rfl
  · rw [hl]; exact h

theorem TextMap.below {w w' : World} {mb n B : Nat} {D : DataW Value} (h : TextMap w mb n D) (hb : Below B w w') (hB : w.heap.size ≤ B) : TextMap w' mb n D := by
  obtain ⟨es, c, h3, h4⟩ := h
  exact ⟨es, c, by rw [hb.block mb (Nat.lt_of_lt_of_le (lt_of h3) hB)]; exact h3, h4⟩
theorem TextMap.lt {w : World} {mb n : Nat} {D : DataW Value} (h : TextMap w mb n D) : mb < w.heap.size := by
  obtain ⟨es, c, h3, h4⟩ := h
  exact lt_of h3

theorem over_length (old : List UInt8) (k : Nat) (b : List UInt8) (m : Nat) (h1 : old.length ≤ m) (h2 : k + b.length ≤ m) (h3 : m = k + b.length ∨ m = old.length) : (over old k b).length = m := by
  simp [over]; omega
theorem splice_over (old : List UInt8) (k : Nat) (b : List UInt8) (m : Nat) (h1 : old.length ≤ m) (h2 : k + b.length ≤ m) (h3 : m = k + b.length ∨ m = old.length) :
    splice (splice (List.replicate m (Value.int .u8 0)) 0 (bval old)) k (bval b) = bval (over old k b) := by
  have hd : k + b.length - old.length = m - old.length := by omega
  have hz : (List.replicate m (Value.int .u8 0)).drop old.length = bval (List.replicate (m - old.length) 0) := by simp [bval]
  have hl : (bval old).length = old.length := by simp [bval]
  have hb : (bval b).length = b.length := by simp [bval]
  unfold splice over
  rw [hd, hl, hb, Nat.zero_add, hz, List.take_zero, List.nil_append]
  simp only [bval, ← List.map_append, ← List.map_take, ← List.map_drop, List.append_assoc]
theorem bytes_block {w : World} {b : Nat} {t : TypeId} {S : Nat → Prop} (l : List UInt8) (h : w.heap[b]? = some (.cells (bval l).toArray t (0, 0))) (hS : S b) (hm : l.length ≤ maxLen) : Bytes w S (.slice (some ⟨b, 0, none⟩) l.length l.length) l := by
  have := Row.mk (w := w) (S := S) (sz := 1) b 0 l.length (l.map fun (x : UInt8) => [.int .u8 (x.toNat : Int)]) hS (lt_of h) (by simp) hm (fun i cs hi => by
    simp only [List.getElem?_map, Option.map_eq_some_iff] at hi
    obtain ⟨x, hx, rfl⟩ := hi
    refine ⟨rfl, fun j v hj => ?_⟩
    cases j with
    | zero =>
      simp only [List.getElem?_cons_zero, Option.some.injEq] at hj
      subst hj
      refine ⟨rfl, (cells_of h _).trans ?_⟩
      simp [bval, hx]
    | succ j => simp at hj)
  rw [List.length_map] at this
  exact this

set_option maxRecDepth 100000 in
set_option maxHeartbeats 2000000 in
theorem do_write (w : World) (S : Nat → Prop) (mb n : Nat) (D : DataW Value) (name to : ByteArray) (k : Nat) (v vo : Value) (old b : List UInt8)
    (h : TextMap w mb n D) (hn : n < maxLen) (hs : name.size ≤ maxLen) (hold : D.atKey (.string name.data.toList) (.held (.slice none 0 0)) = .held vo) (ho : Bytes w S vo old) (hb : Bytes w S v b) (hb0 : 0 < b.length) (hk : Few k) (hbl : Few b.length) (hol : Few old.length) :
    Calls Tryz.prog 58 #[.map (some mb), .agg #[.int .i64 119, .string name, .string to, .int .i64 (k : Int), v]] w fun e w' => e = .returned (.tuple #[]) ∧
      ∃ v', TextMap w' mb (n + 1) (D.put (.string name.data.toList) (.held v')) ∧ Bytes w' (fun x => w.heap.size ≤ x) v' (over old k b) ∧ Keeps (· = mb) w w' := by
  have hkey : keyOf Tryz.prog 9 (.string name) = some (.string name.data.toList) := Go.WideMaps.keyOf_string_mk Tryz.underlying9 hs
  have h1 : TextMap (w.alloc (.cells #[.int .i64 119, .string name, .string to, .int .i64 (k : Int), v] 92)) mb n D := World.ownsMap.alloc h _
  obtain ⟨v0, ps, hrun, hv⟩ := World.ownsMap.look_ok h1 keyS Tryz.underlying72 (zeroBytes _) (R := heldR) rfl hkey
  obtain rfl : v0 = vo := by
    have := congrArg (Option.map Prod.fst) hv
    rw [hold] at this
    simpa [heldR] using this
  generalize Maps.has D _ = q at hrun
  have hmlt : mb < w.heap.size := h.lt
  have hbr := Lib.hid hb
  have hor := Lib.hid ho
  obtain ⟨a, cap, rfl, hcap, hmax, ha⟩ := hb.open
  obtain ⟨a2, cap2, rfl, hcap2, hmax2, ha2⟩ := ho.open
  have hn' := Lib.hid hn; have hs' := Lib.hid hs; have hold' := Lib.hid hold; have hv' := Lib.hid hv
  clear ha ha2 hb ho hmax hmax2 hcap hcap2 hn hs hold hv
  unfold Few at hk hbl hol
  go_enter Tryz.func58, Tryz.ntmps58
  obtain ⟨m, hm1, hm2, hm3⟩ : ∃ m, old.length ≤ m ∧ k + b.length ≤ m ∧ (m = k + b.length ∨ m = old.length) := ⟨max old.length (k + b.length), by omega, by omega, by omega⟩
  have hmk : ∀ (x : Int) (W : World), x = (m : Int) → (Instr.makeSlice 23 (.int .i64 x) (.int .i64 x)).run Tryz.prog W = .ok (.slice (some ⟨W.heap.size, 0, none⟩) m m) (W.alloc (.cells (madeCells #[.int .u8 0] m) 5)) := fun x W hx => by
    subst hx
    exact run_make_row' 23 5 (.int .u8 0) 1 Tryz.underlying23 (by kernel_rfl) rfl .i64 .i64 m (by omega) (by omega) W
  have hmk1 := fun W (h : (old.length : Int) < (k : Int) + (b.length : Int)) => hmk ((k : Int) + (b.length : Int)) W (by omega)
  have hmk2 := fun W (h : (k : Int) + (b.length : Int) ≤ (old.length : Int)) => hmk ((old.length : Int)) W (by omega)
  clear hmk
  have hor2 := hor.out.keep (w' := (w.alloc (.cells #[.int .i64 119, .string name, .string to, .int .i64 (k : Int), .slice a b.length cap] 92)).alloc (.cells (madeCells #[.int .u8 0] m) 5)) (.of_below (((Below.refl _ w).alloc (Nat.le_refl _) _).alloc (by simp) _))
  have hG := heap_alloc_new (w.alloc (.cells #[.int .i64 119, .string name, .string to, .int .i64 (k : Int), .slice a b.length cap] 92)) (.cells (madeCells #[.int .u8 0] m) 5)
  rw [World.size_alloc] at hG
  have hmade : madeCells #[.int .u8 0] m = Array.replicate m (.int .u8 0) := by
    have : madeCells #[.int .u8 0] m = (List.replicate m (Value.int .u8 0)).toArray := by rw [← toList_madeCells_one]
    simpa using this
  rw [hmade] at hor2 hG hmk1 hmk2
  generalize hWb : w.alloc (.cells #[.int .i64 119, .string name, .string to, .int .i64 (k : Int), .slice a b.length cap] 92) = Wb at *
  have hWbs : Wb.heap.size = w.heap.size + 1 := by rw [← hWb]; simp
  have hWbh : Wb.heap[w.heap.size]? = some (.cells #[.int .i64 119, .string name, .string to, .int .i64 (k : Int), .slice a b.length cap] 92) := by rw [← hWb]; exact heap_alloc_new _ _
  have hB0 : Below w.heap.size w Wb := by rw [← hWb]; exact (Below.refl _ w).alloc (Nat.le_refl _) _
  have d0 := cells_of hWbh 0
  have d1 := cells_of hWbh 1
  have d3 := cells_of hWbh 3
  have d4 := cells_of hWbh 4
  simp only [List.getElem?_toArray, List.getElem?_cons_zero, List.getElem?_cons_succ] at d0 d1 d3 d4
  have hG2 : (Wb.alloc (.cells (Array.replicate m (.int .u8 0)) 5)).heap[w.heap.size + 1]? = some (.cells (List.replicate m (Value.int .u8 0)).toArray 5) := by simpa using hG
  clear hG
  go_wp2_with (refine wpList_copy_bytes (o := ⟨some 51, _, _, _, _, _⟩) rfl (.tmp 49) (.tmp 50) 23 rfl 5 Tryz.underlying23 (by kernel_rfl) (w.heap.size + 1) 0 m m rfl rfl hor2 hm1 (List.replicate m (.int .u8 0)) 5 hG2 (by simp; omega) (w.heap.size + 1) Wb ((Below.refl _ Wb).alloc (by omega) _) (by omega) ?_; intro W1 hW1 hB1)
  all_goals
    have hbr1 := hbr.out.keep (.of_below (hB0.trans (hB1.mono (by omega))))
    have e3 := (hB1.cell (p := ⟨w.heap.size, 3, none⟩) (by simp)).trans d3
    have e4 := (hB1.cell (p := ⟨w.heap.size, 4, none⟩) (by simp)).trans d4
    have e1 := (hB1.cell (p := ⟨w.heap.size, 1, none⟩) (by simp)).trans d1
    have hkm : (k : Int) < (m : Int) := by omega
    have hkm2 : (k : Int) ≤ (m : Int) := by omega
    have hmk : ((m : Int) - (k : Int)).toNat = m - k := by omega
    have hTM : ∀ W, Below (w.heap.size + 1) Wb W → W.ownsMap Tryz.prog 9 heldR mb n D := fun W hW => h1.below hW (by rw [hWbs]; exact Nat.le_refl _)
    clear hmk1 hmk2 hrun
    go_frame
    go_region_held3 (fun w' => w'.cell? ⟨w.heap.size, 3, none⟩ = some (.int .i64 (k : Int)) ∧ w'.cell? ⟨w.heap.size, 4, none⟩ = some (.slice a b.length cap)) (first | go_keep | exact ⟨(hB2.cell (p := ⟨w.heap.size, 3, none⟩) (by simp)).trans d3, (hB2.cell (p := ⟨w.heap.size, 4, none⟩) (by simp)).trans d4⟩)
      ((refine step_copy_bytes (by rfl) (.tmp 55) (.tmp 57) 23 (by rfl) 5 Tryz.underlying23 (by kernel_rfl) (w.heap.size + 1) k (m - k) (m - k) (by simp [Act.eval]; intro h; omega) (by rfl) hbr1.drew (by omega) _ 5 hW1.out (by simp [splice]; omega) (w.heap.size + 1) Wb hB1.drew (by omega) ?_; intro W2 hW2 hB2))
  all_goals
    have e5 := (hB2.cell (p := ⟨w.heap.size, 1, none⟩) (by simp)).trans d1
    go_wp2_with (at_mapUpdate; refine wpList_mapUpdate_own (H := Value) _ rfl _ _ _ 72 rfl 9 23 keyS Tryz.underlying72 heldR mb n D rfl (hTM _ hB2) hn'.out _ _ _ rfl rfl hkey _ [] rfl ?_; intro W3 hM3 hg3)
    go_end0
    refine ⟨rfl, .slice (some ⟨w.heap.size + 1, 0, none⟩) m m, hM3, ?_, ?_⟩
    · have hlen := over_length old k b m (by omega) (by omega) (by omega)
      have h3 := (hg3.block (w.heap.size + 1) (by have := hB2.size; have := lt_of hW2.out; omega) (by simp; omega)).trans hW2.out
      rw [splice_over old k b m (by omega) (by omega) (by omega)] at h3
      have := bytes_block (S := fun x => w.heap.size ≤ x) (over old k b) h3 (by omega) (by rw [hlen]; unfold maxLen; omega)
      rw [hlen] at this
      exact this
    · have k1 : Keeps (· = mb) w W2 := (Keeps.of_below hB0).trans (.of_below (hB2.mono (by omega)))
      exact k1.trans ⟨hg3.os, hg3.tape, hg3.output, hg3.size, fun j hj hT => hg3.block j hj (by simpa using hT)⟩
end Go.Proofs.YtfiplgplbjlpdaaGreatDoor
