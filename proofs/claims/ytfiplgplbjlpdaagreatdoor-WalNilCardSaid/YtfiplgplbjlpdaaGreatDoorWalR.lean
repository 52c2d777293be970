/- Words for (*wal.Log).Append on a log without records. -/
import Derived.Test.YtfiplgplbjlpdaaGreatDoorWalN
import Derived.Test.YtfiplgplbjlpdaaGreatDoorLay
import Derived.Test.YtfiplgplbjlpdaaGreatDoorItoa
import Derived.Test.YtfiplgplbjlpdaaGreatDoorReg
import Derived.Deep.DeepCutAuto
namespace Go.Proofs.YtfiplgplbjlpdaaGreatDoor
open Go.RowKit Go.Maps
attribute [local go_sem ↓] Go.wp_at_zero Go.wp_at_succ

theorem letter_name (b : UInt8) (h : letters.contains b = true) : nameBytes.contains b = true := by
  have h2 : (List.range 256).all (fun n => !letters.contains (UInt8.ofNat n) || nameBytes.contains (UInt8.ofNat n)) = true := by kernel_rfl
  have := List.all_eq_true.1 h2 b.toNat (List.mem_range.2 b.toNat_lt)
  rw [UInt8.ofNat_toNat, h] at this
  simpa using this
theorem seg_name (name : ByteArray) (h : isLog name = true) : isName (name ++ ⟨#[46]⟩ ++ ⟨#[49]⟩) = true := by
  unfold isLog at h
  simp only [Bool.and_eq_true, decide_eq_true_eq] at h
  obtain ⟨⟨h1, h2⟩, h3⟩ := h
  have e1 : (⟨#[46]⟩ : ByteArray).size = 1 := rfl
  have e2 : (⟨#[49]⟩ : ByteArray).size = 1 := rfl
  unfold isName
  simp only [Bool.and_eq_true, decide_eq_true_eq, ByteArray.size_append, e1, e2]
  refine ⟨⟨by omega, by omega⟩, ?_⟩
  unfold allIn at *
  simp only [ByteArray.data_append, Array.toList_append, List.all_append, Bool.and_eq_true]
  refine ⟨⟨List.all_eq_true.2 fun b hb => letter_name b (List.all_eq_true.1 h3 b hb), by decide⟩, by decide⟩

theorem appendDeferred_idle (w : World) (r e : Nat) (vr : Value) (hr : w.cell? ⟨r, 0, none⟩ = some vr) :
    CallsD Tryz.prog 39 #[.pointer (some ⟨r, 0, none⟩), .pointer (some ⟨e, 0, none⟩)] .returning w fun x u' w' =>
      x = .returned (.tuple #[]) ∧ u' = .returning ∧ w' = w.drew := by
  refine callsD_of_wpS Tryz.func39 rfl fun c₀ cs hu => ?_
  refine wpS_region_lins mixed [[0, 1, 2], [1, 0, 2]] (by kernel_rfl) fun l hl => ?_
  simp only [List.mem_cons, List.not_mem_nil, or_false] at hl
  rcases hl with rfl | rfl
  all_goals
    simp [wpOpsS, go_sem, recoverD, hu, Tryz.ntmps39, hr]
    refine (wcaught_idle _ _ _).mono ?_
    rintro e' w' ⟨rfl, rfl⟩
    cases c₀
    simp_all [bodyPostS, results, Tryz.results39]

/-- A new segment: its name, its first record's number. -/
def SegMade (_ : ByteArray) (w : World) (s : Value) (w' : World) : Prop :=
  ∃ g nm, s = .pointer (some ⟨g, 0, none⟩) ∧ w.heap.size ≤ g ∧ isName nm = true ∧ w'.heap[g]? = some (.cells #[.string nm, .int .u64 0, .slice none 0 0, .int .i64 0] 79 (0, 0)) ∧ Below w.heap.size w w'

theorem seg_made (w : World) (name : ByteArray) (h : isLog name = true) : SegMade name w (.pointer (some ⟨w.heap.size, 0, none⟩)) (w.alloc (.cells #[.string (name ++ ⟨#[46]⟩ ++ ⟨#[49]⟩), .int .u64 0, .slice none 0 0, .int .i64 0] 79)).drew.drew :=
  ⟨w.heap.size, _, rfl, Nat.le_refl _, seg_name name h, heap_alloc_new w _, (((Below.refl _ w).alloc (Nat.le_refl _) _).drew).drew⟩

theorem Own.drew {w : World} {base : Nat} {e : TypeId} {sz : Nat} {v : Value} {css : List (List Value)} (h : Own w base e sz v css) : Own w.drew base e sz v css := h.keep fun _ _ => rfl
theorem below_undrew {B : Nat} {w w' : World} (h : Below B w.drew w') : Below B w w' := ⟨h.os, h.tape, h.output, h.size, h.block⟩
theorem Row.lt {w : World} {S : Nat → Prop} {sz : Nat} {v : Value} {css : List (List Value)} (h : Row w S sz v css) : Row w (fun b => S b ∧ b < w.heap.size) sz v css := by
  cases h with
  | nil => exact .nil
  | mk b o cap css hS hb hcap hmax hc => exact .mk b o cap css ⟨hS, hb⟩ hb hcap hmax hc
theorem log_ne {w : World} {L p mb : Nat} {room : Int} {name : ByteArray} (h : Log0 w L p name) (hD : Disk0 w p mb room) : L ≠ p ∧ L ≠ mb := by
  unfold Log0 at h
  obtain ⟨⟨sb, h1⟩, es, c, h3, _⟩ := hD
  constructor
  · rintro rfl; rw [h] at h1; simp at h1
  · rintro rfl; rw [h] at h3; simp at h3
/-- What is below B and there is there still. -/
theorem Disk0.keepB {w w' : World} {p mb B : Nat} {room : Int} (h : Disk0 w p mb room) (hb : Below B w w') (hp : p < B) (hm : mb < B) : Disk0 w' p mb room := by
  obtain ⟨⟨sb, h1⟩, h2⟩ := h
  refine ⟨⟨sb, ?_⟩, ?_⟩
  · rw [hb.block p hp]; exact h1
  · obtain ⟨es, c, h3, h4⟩ := h2
    exact ⟨es, c, by rw [hb.block mb hm]; exact h3, h4⟩

/-- What Lay gives at one record, its bytes hidden. -/
def Laid2 (w : World) (l : List UInt8) (e : Ending) (w' : World) : Prop :=
  ∃ a c out, e = .returned (.tuple #[.slice a out.length c, .int .i64 0]) ∧ Own w' w.heap.size 5 1 (.slice a out.length c) (bcells out) ∧ out.length ≤ l.length + 13 ∧ 0 < out.length ∧ Below w.heap.size w w'
theorem Laid.two {w : World} {l : List UInt8} {e : Ending} {w' : World} (h : Laid w l e w') : Laid2 w l e w' := by
  obtain ⟨v, s, rfl, hs, ho, hb⟩ := h
  have := numB_length l.length
  generalize hout : numB l.length ++ l ++ s = out at ho
  have hlen : out.length = (numB l.length).length + l.length + s.length := by rw [← hout]; simp only [List.length_append]
  obtain ⟨a, c, rfl, _, _, _⟩ := Bytes.open (xs := out) ho.row
  exact ⟨a, c, out, rfl, ho, by omega, by omega, hb⟩

/-- What there is on the way through Append's end: A, E hold the log and the error; L is the log. -/
structure Tl (w W : World) (L p mb : Nat) (name : ByteArray) (S : Nat → Prop) (rv : Value) (l : List UInt8) (recs segs : Value) (last : Int) : Prop where
  A : W.heap[w.heap.size]? = some (.cells #[.pointer (some ⟨L, 0, none⟩)] 25 (0, 0))
  E : W.heap[w.heap.size + 1]? = some (.cells #[.int .i64 0] 26 (0, 0))
  O : W.heap[L]? = some (.cells #[.pointer (some ⟨p, 0, none⟩), .string name, .int .u64 0, recs, segs, .int .i64 last, .bool false] 64 (0, 0))
  R : Bytes W (fun b => S b ∧ b < w.heap.size) rv l
  K : Keeps (fun x => x = p ∨ x = mb ∨ x = L) w W
  lt : L < w.heap.size
  sep : ∀ b, S b → b ≠ p ∧ b ≠ mb ∧ b ≠ L
section
variable {w W : World} {L p mb : Nat} {name : ByteArray} {S : Nat → Prop} {rv : Value} {l : List UInt8} {recs segs : Value} {last : Int}
theorem Tl.move (h : Tl w W L p mb name S rv l recs segs last) {T : Nat → Prop} {W' : World} (hk : Keeps T W W') (hT : ∀ x, T x → w.heap.size + 2 ≤ x) : Tl w W' L p mb name S rv l recs segs last := by
  have hn : ∀ x, x < w.heap.size + 2 → ¬ T x := fun x hx ht => by have := hT x ht; omega
  have hlt := h.lt
  refine ⟨(hk.block _ (lt_of h.A) (hn _ (by omega))).trans h.A, (hk.block _ (lt_of h.E) (hn _ (by omega))).trans h.E, (hk.block _ (lt_of h.O) (hn _ (by omega))).trans h.O, ?_, ?_, h.lt, h.sep⟩
  · exact h.R.keep (hk.same fun b hb => hn b (by omega))
  · exact ⟨hk.os.trans h.K.os, hk.tape.trans h.K.tape, hk.output.trans h.K.output, Nat.le_trans h.K.size hk.size, fun k hk1 hk2 => (hk.block k (Nat.lt_of_lt_of_le hk1 h.K.size) (hn k (by omega))).trans (h.K.block k hk1 hk2)⟩
theorem Tl.below (h : Tl w W L p mb name S rv l recs segs last) {W' : World} (hk : Below W.heap.size W W') : Tl w W' L p mb name S rv l recs segs last := h.move (Keeps.of_below (T := fun _ => False) hk) (fun _ hf => False.elim hf)
theorem Tl.setL (h : Tl w W L p mb name S rv l recs segs last) (i : Nat) (u : Value) {recs' segs' : Value} {last' : Int}
    (he : (#[.pointer (some ⟨p, 0, none⟩), .string name, .int .u64 0, recs, segs, .int .i64 last, .bool false] : Array Value).setIfInBounds i u = #[.pointer (some ⟨p, 0, none⟩), .string name, .int .u64 0, recs', segs', .int .i64 last', .bool false]) :
    Tl w (W.setCell ⟨L, i, none⟩ u) L p mb name S rv l recs' segs' last' := by
  have hlt := h.lt
  refine ⟨(Below.heap_setCell W ⟨L, i, none⟩ u _ (by simp; omega)).trans h.A, (Below.heap_setCell W ⟨L, i, none⟩ u _ (by simp; omega)).trans h.E, ?_, ?_, ?_, h.lt, h.sep⟩
  · rw [set_of h.O i u, he]
  · exact h.R.keep (Same.cell1 W L i u fun hb => (h.sep L hb.1).2.2 rfl)
  · exact h.K.setCell ⟨L, i, none⟩ (.inr (.inr rfl)) u
theorem Tl.setLast (h : Tl w W L p mb name S rv l recs segs last) (n : Int) : Tl w (W.setCell ⟨L, 5, none⟩ (.int .i64 n)) L p mb name S rv l recs segs n := h.setL 5 _ rfl
theorem Tl.setSegs (h : Tl w W L p mb name S rv l recs segs last) (v : Value) : Tl w (W.setCell ⟨L, 4, none⟩ v) L p mb name S rv l recs v last := h.setL 4 _ rfl
theorem Tl.setRecs (h : Tl w W L p mb name S rv l recs segs last) (v : Value) : Tl w (W.setCell ⟨L, 3, none⟩ v) L p mb name S rv l v segs last := h.setL 3 _ rfl
end

theorem el_segs : Elem Tryz.prog 62 79 4 56 := .of (by kernel_rfl) (by kernel_rfl) (by decide) (by decide)
theorem el_recs : Elem Tryz.prog 55 23 1 24 := .of (by kernel_rfl) (by kernel_rfl) (by decide) (by decide)
/-- The log behind its first record. -/
def Log1 (w W : World) (L p mb : Nat) (l : List UInt8) : Prop :=
  ∃ rb c v', W.cell? ⟨L, 2, none⟩ = some (.int .u64 0) ∧ W.cell? ⟨L, 3, none⟩ = some (.slice (some ⟨rb, 0, none⟩) 1 c) ∧ W.cell? ⟨rb, 0, none⟩ = some v' ∧ Bytes W (fun b => w.heap.size + 2 ≤ b) v' l ∧ w.heap.size + 2 ≤ rb ∧ Keeps (fun x => x = p ∨ x = mb ∨ x = L) w W

theorem log1_made {w W : World} {L p mb : Nat} {name : ByteArray} {S : Nat → Prop} {rv : Value} {l : List UInt8} {recs segs v' : Value} {last : Int} {rb c : Nat} (h : Tl w W L p mb name S rv l recs segs last)
    (hc : W.cell? ⟨rb, 0, none⟩ = some v') (hb : Bytes W (fun b => w.heap.size + 2 ≤ b) v' l) (hrb : w.heap.size + 2 ≤ rb) : Log1 w (W.setCell ⟨L, 3, none⟩ (.slice (some ⟨rb, 0, none⟩) 1 c)) L p mb l := by
  have hlt := h.lt
  have h2 := h.setRecs (.slice (some ⟨rb, 0, none⟩) 1 c)
  refine ⟨rb, c, v', (cells_of h2.O 2).trans rfl, (cells_of h2.O 3).trans rfl, ?_, hb.keep (Same.cell1 W L 3 _ (by omega)), hrb, h2.K⟩
  rw [World.cell?_setCell_other _ _ _ _ (by intro e; injection e; omega)]; exact hc

theorem Log1.setE {w W : World} {L p mb : Nat} {l : List UInt8} (h : Log1 w W L p mb l) (hL : L < w.heap.size) (u : Value) : Log1 w (W.setCell ⟨w.heap.size + 1, 0, none⟩ u) L p mb l := by
  obtain ⟨rb, c, v', h1, h2, h3, h4, h5, h6⟩ := h
  refine ⟨rb, c, v', ?_, ?_, ?_, h4.keep (Same.cell1 W _ 0 _ (by omega)), h5, ⟨h6.os, h6.tape, h6.output, by have := h6.size; simpa [World.setCell] using this, fun k hk hT => (Below.heap_setCell _ _ _ _ (by simp; omega)).trans (h6.block k hk hT)⟩⟩
  · rw [World.cell?_setCell_other _ _ _ _ (by intro e; injection e; omega)]; exact h1
  · rw [World.cell?_setCell_other _ _ _ _ (by intro e; injection e; omega)]; exact h2
  · rw [World.cell?_setCell_other _ _ _ _ (by intro e; injection e; omega)]; exact h3
theorem Log1.drew {w W : World} {L p mb : Nat} {l : List UInt8} (h : Log1 w W L p mb l) : Log1 w W.drew L p mb l := by
  obtain ⟨rb, c, v', h1, h2, h3, h4, h5, h6⟩ := h
  exact ⟨rb, c, v', h1, h2, h3, h4.drew, h5, h6.drew⟩

/-- The head of a segment is laid: the slice of one text that was just built. -/
theorem lay_head (w : World) (S : Nat → Prop) (v : Value) (hr : Row w S 1 v (bcells (numB 0))) (_ : v.oneCell' = true) :
    Calls Tryz.prog 40 #[.slice (some ⟨w.heap.size, 0, none⟩) 1 1] (w.alloc (.cells #[v] 23)) (Laid2 (w.alloc (.cells #[v] 23)) (numB 0)) := by
  have hl : (numB 0).length ≤ 32768 := by
    obtain ⟨h1, h2⟩ := numB_length 0
    omega
  exact (lay_one _ S w.heap.size v (numB 0) ((cells_of (heap_alloc_new w (.cells #[v] 23)) 0).trans rfl) (by simp) (Row.alloc hr _) hl).mono fun _ _ h => h.two

end Go.Proofs.YtfiplgplbjlpdaaGreatDoor
