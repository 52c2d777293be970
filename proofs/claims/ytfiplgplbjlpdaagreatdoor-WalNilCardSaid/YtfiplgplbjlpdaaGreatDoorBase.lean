/- Words for all contracts of this seat: rows of cells that stand for lists, worlds that keep what they had. No condition. -/
import Derived.WalkKit
import Derived.Below
import Derived.Lib.Hide
import Derived.Laws.AppendOwnNone
import Derived.WalkSpells
import Derived.OwnWalk
namespace Go.Proofs.YtfiplgplbjlpdaaGreatDoor
open Go.RowKit

/-- A block that is made between two worlds. -/
def Fresh (w w' : World) (b : Nat) : Prop := w.heap.size ≤ b ∧ b < w'.heap.size

/-- A row of elements of `sz` cells: what a slice value reads as, in blocks of S. -/
inductive Row (w : World) (S : Nat → Prop) (sz : Nat) : Value → List (List Value) → Prop
  | nil : Row w S sz (.slice none 0 0) []
  | mk (b o cap : Nat) (css : List (List Value)) (hS : S b) (hb : b < w.heap.size) (hcap : css.length ≤ cap) (hmax : cap ≤ maxLen)
      (hc : ∀ i cs, css[i]? = some cs → cs.length = sz ∧ ∀ j v, cs[j]? = some v → v.oneCell' = true ∧ w.cell? ⟨b, o + i * sz + j, none⟩ = some v) :
      Row w S sz (.slice (some ⟨b, o, none⟩) css.length cap) css

/-- What is in blocks of S is there in both worlds alike. -/
def Same (S : Nat → Prop) (w w' : World) : Prop := w.heap.size ≤ w'.heap.size ∧ ∀ b, S b → b < w.heap.size → w'.heap[b]? = w.heap[b]?

theorem Same.refl (S : Nat → Prop) (w : World) : Same S w w := ⟨Nat.le_refl _, fun _ _ _ => rfl⟩
theorem Same.trans {S : Nat → Prop} {a b c : World} (h : Same S a b) (k : Same S b c) : Same S a c :=
  ⟨Nat.le_trans h.1 k.1, fun i hS hi => (k.2 i hS (Nat.lt_of_lt_of_le hi h.1)).trans (h.2 i hS hi)⟩
theorem Same.of_below {S : Nat → Prop} {w w' : World} (h : Below w.heap.size w w') : Same S w w' := ⟨h.size, fun b _ hb => h.block b hb⟩
theorem Same.mono {S S' : Nat → Prop} {w w' : World} (h : Same S w w') (hs : ∀ b, S' b → S b) : Same S' w w' := ⟨h.1, fun b hb => h.2 b (hs b hb)⟩

theorem Row.keep {w w' : World} {S : Nat → Prop} {sz : Nat} {v : Value} {css : List (List Value)} (h : Row w S sz v css) (hs : Same S w w') : Row w' S sz v css := by
  cases h with
  | nil => exact .nil
  | mk b o cap css hS hb hcap hmax hc =>
    refine .mk b o cap css hS (Nat.lt_of_lt_of_le hb hs.1) hcap hmax fun i cs h1 => ⟨(hc i cs h1).1, fun j v h2 => ?_⟩
    rw [World.cell?_of_block (w := w) (hs.2 b hS hb)]; exact (hc i cs h1).2 j v h2
theorem Row.mono {w : World} {S S' : Nat → Prop} {sz : Nat} {v : Value} {css : List (List Value)} (h : Row w S sz v css) (hs : ∀ b, S b → S' b) : Row w S' sz v css := by
  cases h with
  | nil => exact .nil
  | mk b o cap css hS hb hcap hmax hc => exact .mk b o cap css (hs b hS) hb hcap hmax hc

/-- One shape for both cases: the address may be none. -/
theorem Row.open {w : World} {S : Nat → Prop} {sz : Nat} {v : Value} {css : List (List Value)} (h : Row w S sz v css) :
    ∃ a cap, v = .slice a css.length cap ∧ css.length ≤ cap ∧ cap ≤ maxLen ∧
      ((a = none ∧ cap = 0) ∨ ∃ b o, a = some ⟨b, o, none⟩ ∧ S b ∧ b < w.heap.size ∧ ∀ i cs, css[i]? = some cs → cs.length = sz ∧ ∀ j v, cs[j]? = some v → v.oneCell' = true ∧ w.cell? ⟨b, o + i * sz + j, none⟩ = some v) := by
  cases h with
  | nil => exact ⟨none, 0, rfl, by simp, by simp, .inl ⟨rfl, rfl⟩⟩
  | mk b o cap css hS hb hcap hmax hc => exact ⟨some ⟨b, o, none⟩, cap, rfl, hcap, hmax, .inr ⟨b, o, rfl, hS, hb, hc⟩⟩

/-- Numbers of 64 bits. -/
def Nums (w : World) (S : Nat → Prop) (v : Value) (xs : List Nat) : Prop := Row w S 1 v (xs.map fun (x : Nat) => [.int .u64 (x : Int)])
/-- Bytes. -/
def Bytes (w : World) (S : Nat → Prop) (v : Value) (xs : List UInt8) : Prop := Row w S 1 v (xs.map fun (x : UInt8) => [.int .u8 (x.toNat : Int)])

theorem Nums.keep {w w' : World} {S : Nat → Prop} {v : Value} {xs : List Nat} (h : Nums w S v xs) (hs : Same S w w') : Nums w' S v xs := Row.keep h hs
theorem Bytes.keep {w w' : World} {S : Nat → Prop} {v : Value} {xs : List UInt8} (h : Bytes w S v xs) (hs : Same S w w') : Bytes w' S v xs := Row.keep h hs
theorem Nums.open {w : World} {S : Nat → Prop} {v : Value} {xs : List Nat} (h : Nums w S v xs) :
    ∃ a cap, v = .slice a xs.length cap ∧ xs.length ≤ cap ∧ cap ≤ maxLen ∧
      ((a = none ∧ cap = 0) ∨ ∃ b o, a = some ⟨b, o, none⟩ ∧ S b ∧ b < w.heap.size ∧ ∀ (i x : Nat), xs[i]? = some x → w.cell? ⟨b, o + i, none⟩ = some (.int .u64 (x : Int))) := by
  obtain ⟨a, cap, rfl, h1, h2, h4⟩ := Row.open h
  refine ⟨a, cap, by simp, by simpa using h1, h2, h4.imp id ?_⟩
  rintro ⟨b, o, rfl, hS, hb, hc⟩
  refine ⟨b, o, rfl, hS, hb, fun i x hx => ?_⟩
  have := ((hc i [.int .u64 (x : Int)] (by simp [hx])).2 0 _ rfl).2
  simpa using this
theorem Bytes.open {w : World} {S : Nat → Prop} {v : Value} {xs : List UInt8} (h : Bytes w S v xs) :
    ∃ a cap, v = .slice a xs.length cap ∧ xs.length ≤ cap ∧ cap ≤ maxLen ∧
      ((a = none ∧ cap = 0) ∨ ∃ b o, a = some ⟨b, o, none⟩ ∧ S b ∧ b < w.heap.size ∧ ∀ i x, xs[i]? = some x → w.cell? ⟨b, o + i, none⟩ = some (.int .u8 (x.toNat : Int))) := by
  obtain ⟨a, cap, rfl, h1, h2, h4⟩ := Row.open h
  refine ⟨a, cap, by simp, by simpa using h1, h2, h4.imp id ?_⟩
  rintro ⟨b, o, rfl, hS, hb, hc⟩
  refine ⟨b, o, rfl, hS, hb, fun i x hx => ?_⟩
  have := ((hc i [.int .u8 (x.toNat : Int)] (by simp [hx])).2 0 _ rfl).2
  simpa using this

/-- A number of 64 bits. (Closed.) -/
def U64 (n : Nat) : Prop := n < 18446744073709551616
/-- So many elements are few enough for any memory. (Closed: a great number in the context stops the walk.) -/
def Few (n : Nat) : Prop := n ≤ 1000000000
theorem Few.mul {n k : Nat} (h : Few n) (hk : k ≤ 1000) : n * k ≤ 140737488355328 := by
  unfold Few at h
  exact Nat.le_trans (Nat.mul_le_mul h hk) (by decide)
theorem Few.max {n : Nat} (h : Few n) : n ≤ maxLen := by unfold Few at h; unfold maxLen; omega
theorem Few.le {n m : Nat} (h : Few n) (hm : m ≤ n) : Few m := Nat.le_trans hm h
/-! ### Rows that the call owns: append -/
/-- A slice of the call's own: the whole of its block from number `base` on is nobody else's. -/
def Own (w : World) (base : Nat) (e : TypeId) (sz : Nat) (v : Value) (css : List (List Value)) : Prop :=
  w.ownsRow base e sz v css.length css.flatten ∧ ∀ cs ∈ css, cs.length = sz ∧ ∀ u ∈ cs, u.oneCell' = true

theorem length_flatten_sz {sz : Nat} {css : List (List Value)} (h : ∀ cs ∈ css, cs.length = sz) : css.flatten.length = css.length * sz := by
  induction css with
  | nil => simp
  | cons c l ih => simp only [List.flatten_cons, List.length_append, List.length_cons]; rw [ih fun cs hc => h cs (List.mem_cons_of_mem _ hc), h c (List.mem_cons_self ..), Nat.add_mul]; omega
theorem flatten_at {sz : Nat} {css : List (List Value)} (h : ∀ cs ∈ css, cs.length = sz) (i : Nat) (cs : List Value) (hi : css[i]? = some cs) (j : Nat) (v : Value) (hj : cs[j]? = some v) :
    css.flatten[i * sz + j]? = some v := by
  induction css generalizing i with
  | nil => simp at hi
  | cons c l ih =>
    have hc := h c (List.mem_cons_self ..)
    simp only [List.flatten_cons]
    cases i with
    | zero =>
      simp only [List.getElem?_cons_zero, Option.some.injEq] at hi
      subst hi
      rw [Nat.zero_mul, Nat.zero_add, List.getElem?_append_left (by have := List.getElem?_eq_some_iff.1 hj; obtain ⟨h, _⟩ := this; exact h)]; exact hj
    | succ i =>
      simp only [List.getElem?_cons_succ] at hi
      rw [List.getElem?_append_right (by rw [hc, Nat.add_mul]; omega), hc, show (i + 1) * sz + j - sz = i * sz + j by rw [Nat.add_mul]; omega]
      exact ih (fun cs hc => h cs (List.mem_cons_of_mem _ hc)) i hi
theorem at_flatten {sz : Nat} (hsz : 0 < sz) {css : List (List Value)} (h : ∀ cs ∈ css, cs.length = sz) (k : Nat) (u : Value) (hk : css.flatten[k]? = some u) :
    ∃ cs, css[k / sz]? = some cs ∧ cs[k % sz]? = some u := by
  have hl := length_flatten_sz h
  have hk' : k < css.length * sz := by rw [← hl]; exact (List.getElem?_eq_some_iff.1 hk).1
  have hq : k / sz < css.length := Nat.div_lt_of_lt_mul (by rw [Nat.mul_comm]; exact hk')
  have hc := h _ (List.getElem_mem hq)
  have hr : k % sz < (css[k / sz]).length := by rw [hc]; exact Nat.mod_lt _ hsz
  refine ⟨css[k / sz], List.getElem?_eq_getElem hq, ?_⟩
  have := flatten_at h (k / sz) _ (List.getElem?_eq_getElem hq) (k % sz) _ (List.getElem?_eq_getElem hr)
  rw [Nat.div_add_mod' k sz] at this
  rw [List.getElem?_eq_getElem hr, ← this, hk]

theorem Own.row {w : World} {base : Nat} {e : TypeId} {sz : Nat} {v : Value} {css : List (List Value)} (h : Own w base e sz v css) : Row w (fun b => base ≤ b) sz v css := by
  obtain ⟨⟨hl, h1⟩, h2⟩ := h
  rcases h1 with ⟨rfl, hn⟩ | ⟨g, cap, cur, rfl, hg, hh, hnc, hm, hcs, ht⟩
  · have : css = [] := List.eq_nil_of_length_eq_zero hn
    subst this; exact .nil
  · have hlt : g < w.heap.size := (Array.getElem?_eq_some_iff.1 hh).1
    refine .mk g 0 cap css hg hlt hnc hm fun i cs hi => ⟨(h2 cs (List.mem_of_getElem? hi)).1, fun j u hj => ⟨(h2 cs (List.mem_of_getElem? hi)).2 u (List.mem_of_getElem? hj), ?_⟩⟩
    have := flatten_at (fun cs hc => (h2 cs hc).1) i cs hi j u hj
    rw [← ht, List.getElem?_take] at this
    split at this
    · simp [World.cell?, hh]; simpa using this
    · simp at this
theorem Own.nil (w : World) (base : Nat) (e : TypeId) (sz : Nat) : Own w base e sz (.slice none 0 0) [] := ⟨World.ownsRow_nil w base e sz, by simp⟩

theorem Row.alloc {w : World} {S : Nat → Prop} {sz : Nat} {v : Value} {css : List (List Value)} (h : Row w S sz v css) (o : Obj) : Row (w.alloc o) S sz v css := h.keep (.of_below ((Below.refl _ _).alloc (Nat.le_refl _) o))
theorem Row.drew {w : World} {S : Nat → Prop} {sz : Nat} {v : Value} {css : List (List Value)} (h : Row w S sz v css) : Row w.drew S sz v css := h.keep (.of_below (Below.refl _ _).drew)
/-- A slice literal is the call's own. -/
theorem Own.lit {w : World} {base : Nat} (e : TypeId) (sz : Nat) (css : List (List Value)) (cs : Array Value) (hcs : cs = css.flatten.toArray) (h : ∀ cs ∈ css, cs.length = sz ∧ ∀ u ∈ cs, u.oneCell' = true) (hf : Few css.length) (hb : base ≤ w.heap.size) :
    Own (w.alloc (.cells cs e)) base e sz (.slice (some ⟨w.heap.size, 0, none⟩) css.length css.length) css := by
  subst hcs
  refine ⟨?_, h⟩
  have := World.ownsRow_lit (base := base) (e := e) (size := sz) w css.flatten.toArray css.length hb hf.max (by simp only [List.size_toArray]; exact length_flatten_sz fun cs hc => (h cs hc).1)
  simpa using this
theorem Own.lit0 {w : World} {base : Nat} (e : TypeId) (sz : Nat) (hb : base ≤ w.heap.size) : Own (w.alloc (.cells #[] e)) base e sz (.slice (some ⟨w.heap.size, 0, none⟩) 0 0) [] :=
  Own.lit e sz [] #[] (by simp) (by simp) (by simp [Few]) hb

theorem Own.keep {w w' : World} {base : Nat} {e : TypeId} {sz : Nat} {v : Value} {css : List (List Value)} (h : Own w base e sz v css) (hk : ∀ k, v.ownBlock = some k → w'.heap[k]? = w.heap[k]?) : Own w' base e sz v css := by
  obtain ⟨⟨hl, h1⟩, h2⟩ := h
  refine ⟨⟨hl, ?_⟩, h2⟩
  rcases h1 with h1 | ⟨g, cap, cur, rfl, hg, hh, r⟩
  · exact .inl h1
  · exact .inr ⟨g, cap, cur, rfl, hg, by rw [hk g rfl]; exact hh, r⟩
theorem Own.alloc {w : World} {base : Nat} {e : TypeId} {sz : Nat} {v : Value} {css : List (List Value)} (h : Own w base e sz v css) (o : Obj) : Own (w.alloc o) base e sz v css := ⟨h.1.alloc o, h.2⟩
theorem Own.lt {w : World} {base : Nat} {e : TypeId} {sz : Nat} {v : Value} {css : List (List Value)} (h : Own w base e sz v css) : ∀ k, v.ownBlock = some k → base ≤ k ∧ k < w.heap.size := h.1.lt
theorem Own.below {w w' : World} {base B : Nat} {e : TypeId} {sz : Nat} {v : Value} {css : List (List Value)} (h : Own w base e sz v css) (hb : Below B w w') (hlt : ∀ k, v.ownBlock = some k → k < B) : Own w' base e sz v css :=
  h.keep fun k hk => hb.block k (hlt k hk)
/-- A literal of one element of one cell. -/
theorem Row.one {w : World} (S : Nat → Prop) (hS : S w.heap.size) (e : TypeId) (x : Value) (hx : x.oneCell' = true) : Row (w.alloc (.cells #[x] e)) S 1 (.slice (some ⟨w.heap.size, 0, none⟩) 1 1) [[x]] := by
  refine .mk w.heap.size 0 1 [[x]] hS (by simp) (by simp) (by decide) fun i cs h => ?_
  cases i with
  | zero =>
    simp only [List.getElem?_cons_zero, Option.some.injEq] at h
    subst h
    refine ⟨rfl, fun j v hv => ?_⟩
    cases j with
    | zero => simp only [List.getElem?_cons_zero, Option.some.injEq] at hv; subst hv; exact ⟨hx, by rw [cell_of_row _ w.heap.size _ _ _ _ (heap_alloc_new w _)]; rfl⟩
    | succ j => simp at hv
  | succ i => simp at h

/-- What the append laws ask of a slice type. -/
structure Elem (P : Program) (t e : TypeId) (sz bytes : Nat) : Prop where
  und : P.underlying t = some (.slice e)
  info : ∃ i z, P.info? e = some i ∧ i.zero = some z ∧ i.size = sz ∧ i.bytes = bytes ∧ z.cells.size = sz
  pos : 0 < sz
  small : bytes ≤ 1000
theorem Elem.of {P : Program} {t e : TypeId} {sz bytes : Nat} (h : P.underlying t = some (.slice e)) (h2 : (P.info? e).map (fun i => (i.zero.map (·.cells.size), i.size, i.bytes)) = some (some sz, sz, bytes)) (h3 : 0 < sz) (h4 : bytes ≤ 1000) : Elem P t e sz bytes := by
  refine ⟨h, ?_, h3, h4⟩
  cases hi : P.info? e with
  | none => rw [hi] at h2; simp at h2
  | some i =>
    rw [hi] at h2
    simp only [Option.map_some, Option.some.injEq, Prod.mk.injEq] at h2
    obtain ⟨hz, h4, h5⟩ := h2
    cases hz' : i.zero with
    | none => rw [hz'] at hz; simp at hz
    | some z => rw [hz'] at hz; simp at hz; exact ⟨i, z, rfl, hz', h4, h5, hz⟩

/-- append(s, x...) where s is the call's own and x any row. -/
theorem wpList_append_row {P : Program} {w : World} {ops : Array Oper} {rest : List Oper} {o : Oper} {a : Act} {Q : Exit → Act → World → Prop} (s x : Operand) (v u : Value) {t e : TypeId} {sz bytes : Nat} (hE : Elem P t e sz bytes)
    (hgd : o.guard = none) (ho : o.op = .call { callee := .builtin .append, args := #[s, x], argTypes := #[t, t] })
    {base : Nat} {css news : List (List Value)} (hs : a.eval s = v) {S : Nat → Prop} (hx : a.eval x = u) (hown : Own w base e sz v css) (hrow : Row w S sz u news)
    (hfew : Few (css.length + news.length)) (hbase : base ≤ w.heap.size)
    (h : ∀ v' w', Own w' base e sz v' (css ++ news) → Below base w w' → w.grownBy w' v.ownBlock → (v' = .slice none 0 0 ↔ v = .slice none 0 0 ∧ news = []) → wpList P ops Q rest (a.put o.dst v') w') : wpList P ops Q (o :: rest) a w := by
  have h63 := hfew.max
  have hbytes := hfew.mul hE.small
  have hbel : ∀ w', w.grownBy w' v.ownBlock → Below base w w' := fun w' hg => (Below.refl base w).grown hg hbase fun k hk => (hown.1.lt k hk).1
  obtain ⟨i, z, hi, hz, h4, h5, h6⟩ := hE.info
  cases hrow with
  | nil =>
    refine wpList_append_own_none hgd s x t ho base e i sz hE.und hi v css.length css.flatten hs hown.1 hx (h v w (by simpa using hown) (Below.refl _ _) ⟨rfl, rfl, rfl, Nat.le_refl _, fun _ _ _ => rfl⟩ (by simp))
  | mk b o' cap _ hS hb hcap hmax hc =>
    have hlen : ∀ cs ∈ news, cs.length = sz := fun cs hm => by
      obtain ⟨n, hn⟩ := List.getElem?_of_mem hm
      exact (hc n cs hn).1
    refine wpList_append_own w hgd s x t ho base e i z sz bytes hE.und hi hz h4 h5 h6 hE.pos v css.length css.flatten hs hown.1 ⟨b, o', none⟩ news.length cap news.flatten hx (length_flatten_sz hlen) ?_ ?_ h63 hbytes hbase ?_
    · intro j u hj
      obtain ⟨cs, h1, h2⟩ := at_flatten hE.pos hlen j u hj
      have := ((hc _ cs h1).2 _ u h2).2
      rw [← this]
      simp only [Addr.add]
      split
      · rename_i h0; subst h0; simp
      · congr 2; rw [Nat.add_assoc, Nat.div_add_mod' j sz]
    · intro u hu
      obtain ⟨cs, h1, h2⟩ := List.mem_flatten.1 hu
      obtain ⟨n, hn⟩ := List.getElem?_of_mem h1
      obtain ⟨m, hm⟩ := List.getElem?_of_mem h2
      exact ((hc n cs hn).2 m u hm).1
    · intro v' w' hown' hgr hnil
      refine h v' w' ⟨by rw [List.length_append, List.flatten_append]; exact hown', ?_⟩ (hbel w' hgr) hgr (by rw [hnil]; simp)
      intro cs hm
      rcases List.mem_append.1 hm with hm | hm
      · exact hown.2 cs hm
      · obtain ⟨n, hn⟩ := List.getElem?_of_mem hm
        exact ⟨hlen cs hm, fun u hu => by obtain ⟨m, hm⟩ := List.getElem?_of_mem hu; exact ((hc n cs hn).2 m u hm).1⟩

/-- make([]T, 0, n). -/
theorem wpList_make_row {P : Program} {w : World} {ops : Array Oper} {rest : List Oper} {o : Oper} {a : Act} {Q : Exit → Act → World → Prop} (l c : Operand) (n : Nat) {t e : TypeId} {sz bytes : Nat} (hE : Elem P t e sz bytes)
    (hg : o.guard = none) (hop : o.op = Op.makeSlice t l c) {kl kc : IntKind} {C : Int} (hl : a.eval l = .int kl 0) (hc : a.eval c = .int kc C) (hC : C = (n : Int)) (hf : Few n)
    (h : ∀ w', Own w' w.heap.size e sz (.slice (some ⟨w.heap.size, 0, none⟩) 0 n) [] → Below w.heap.size w w' → wpList P ops Q rest (a.put o.dst (.slice (some ⟨w.heap.size, 0, none⟩) 0 n)) w') : wpList P ops Q (o :: rest) a w := by
  obtain ⟨i, z, hi, hz, h4, h5, h6⟩ := hE.info
  refine wpList_make_own w hg l c t hop w.heap.size e i z sz hE.und hi hz h4 kl kc C n hl hc hC ?_ hf.max (Nat.le_refl _) fun w' h1 h2 => h w' ⟨h1, by simp⟩ ((Below.refl _ _).grown h2 (Nat.le_refl _) (by simp))
  have := hf.mul hE.small
  rw [h5, Nat.mul_comm]; omega

/-- Outside T nothing that was there has changed. -/
structure Keeps (T : Nat → Prop) (w w' : World) : Prop where
  os : w'.os = w.os
  tape : w'.tape = w.tape
  output : w'.output = w.output
  size : w.heap.size ≤ w'.heap.size
  block : ∀ k, k < w.heap.size → ¬ T k → w'.heap[k]? = w.heap[k]?
theorem Keeps.refl (T : Nat → Prop) (w : World) : Keeps T w w := ⟨rfl, rfl, rfl, Nat.le_refl _, fun _ _ _ => rfl⟩
theorem Keeps.trans {T : Nat → Prop} {a b c : World} (h : Keeps T a b) (k : Keeps T b c) : Keeps T a c :=
  ⟨k.os.trans h.os, k.tape.trans h.tape, k.output.trans h.output, Nat.le_trans h.size k.size, fun i hi hT => (k.block i (Nat.lt_of_lt_of_le hi h.size) hT).trans (h.block i hi hT)⟩
theorem Keeps.of_below {T : Nat → Prop} {w w' : World} (h : Below w.heap.size w w') : Keeps T w w' := ⟨h.os, h.tape, h.output, h.size, fun k hk _ => h.block k hk⟩
theorem Keeps.same {T S : Nat → Prop} {w w' : World} (h : Keeps T w w') (hd : ∀ b, S b → ¬ T b) : Same S w w' := ⟨h.size, fun b hb hlt => h.block b hlt (hd b hb)⟩
theorem Keeps.mono {T T' : Nat → Prop} {w w' : World} (h : Keeps T w w') (ht : ∀ b, T b → T' b) : Keeps T' w w' := ⟨h.os, h.tape, h.output, h.size, fun k hk hT => h.block k hk fun h => hT (ht k h)⟩
theorem Keeps.setCell {T : Nat → Prop} {a w : World} (h : Keeps T a w) (p : Addr) (hp : T p.block) (u : Value) : Keeps T a (w.setCell p u) :=
  h.trans ⟨rfl, rfl, rfl, by simp [World.setCell], fun k _ hT => Below.heap_setCell _ _ _ _ (fun e => hT (e ▸ hp))⟩
theorem Keeps.alloc {T : Nat → Prop} {a w : World} (h : Keeps T a w) (o : Obj) : Keeps T a (w.alloc o) := h.trans (.of_below ((Below.refl _ _).alloc (Nat.le_refl _) o))
theorem Keeps.drew {T : Nat → Prop} {a w : World} (h : Keeps T a w) : Keeps T a w.drew := h.trans (.of_below (Below.refl _ _).drew)
theorem Keeps.cell1 (w : World) (b j : Nat) (u : Value) : Keeps (fun k => k = b) w (w.setCell ⟨b, j, none⟩ u) := (Keeps.refl (fun k => k = b) w).setCell ⟨b, j, none⟩ rfl u
/-- A store into a block that S doesn't have. -/
theorem Same.cell1 {S : Nat → Prop} (w : World) (b j : Nat) (u : Value) (hS : ¬ S b) : Same S w (w.setCell ⟨b, j, none⟩ u) := (Keeps.cell1 w b j u).same fun _ hk e => hS (e ▸ hk)
/-- What was written is new. -/
theorem Keeps.below {B : Nat} {T : Nat → Prop} {a w w' : World} (h : Below B a w) (k : Keeps T w w') (hT : ∀ b, T b → B ≤ b) (hB : B ≤ w.heap.size) : Below B a w' :=
  h.trans ⟨k.os, k.tape, k.output, k.size, fun i hi => k.block i (by omega) fun ht => by have := hT i ht; omega⟩

/-! ### Pieces of a row -/
theorem Row.inv {w : World} {S : Nat → Prop} {sz b o n cap : Nat} {css : List (List Value)} (h : Row w S sz (.slice (some ⟨b, o, none⟩) n cap) css) :
    n = css.length ∧ S b ∧ b < w.heap.size ∧ css.length ≤ cap ∧ cap ≤ maxLen ∧ ∀ i cs, css[i]? = some cs → cs.length = sz ∧ ∀ j v, cs[j]? = some v → v.oneCell' = true ∧ w.cell? ⟨b, o + i * sz + j, none⟩ = some v := by
  cases h with
  | mk b o cap css hS hb hcap hmax hc => exact ⟨rfl, hS, hb, hcap, hmax, hc⟩
theorem Row.empty {w : World} {S : Nat → Prop} (sz b o : Nat) {cap : Nat} (hS : S b) (hb : b < w.heap.size) (hm : cap ≤ maxLen) : Row w S sz (.slice (some ⟨b, o, none⟩) 0 cap) [] :=
  Row.mk b o cap [] hS hb (Nat.zero_le _) hm (by simp)
theorem Row.sub {w : World} {S : Nat → Prop} {sz b o n cap : Nat} {css : List (List Value)} (h : Row w S sz (.slice (some ⟨b, o, none⟩) n cap) css) (i j : Nat) (hij : i ≤ j) (hj : j ≤ css.length) :
    Row w S sz (.slice (some ⟨b, o + i * sz, none⟩) (j - i) (cap - i)) ((css.take j).drop i) := by
  obtain ⟨rfl, hS, hb, hcap, hmax, hc⟩ := h.inv
  have hl : ((css.take j).drop i).length = j - i := by simp; omega
  rw [← hl]
  refine Row.mk b (o + i * sz) (cap - i) _ hS hb (by omega) (by omega) fun k cs hk => ?_
  have hk' : css[i + k]? = some cs := by
    rw [List.getElem?_drop, List.getElem?_take] at hk
    split at hk
    · exact hk
    · simp at hk
  refine ⟨(hc _ cs hk').1, fun m v hm => ?_⟩
  have := (hc _ cs hk').2 m v hm
  rw [Nat.add_mul, ← Nat.add_assoc] at this
  exact this
theorem Row.drop {w : World} {S : Nat → Prop} {sz b o n cap : Nat} {css : List (List Value)} (h : Row w S sz (.slice (some ⟨b, o, none⟩) n cap) css) (i : Nat) (hi : i ≤ css.length) :
    Row w S sz (.slice (some ⟨b, o + i * sz, none⟩) (css.length - i) (cap - i)) (css.drop i) := by
  simpa using h.sub i css.length hi (Nat.le_refl _)
theorem Row.take {w : World} {S : Nat → Prop} {sz b o n cap : Nat} {css : List (List Value)} (h : Row w S sz (.slice (some ⟨b, o, none⟩) n cap) css) (j : Nat) (hj : j ≤ css.length) :
    Row w S sz (.slice (some ⟨b, o, none⟩) j cap) (css.take j) := by
  simpa using h.sub 0 j (Nat.zero_le _) hj

/-! ### Objects: blocks of known cells -/
theorem cells_of {w : World} {b : Nat} {cs : Array Value} {t : TypeId} (h : w.heap[b]? = some (.cells cs t (0, 0))) (j : Nat) : w.cell? ⟨b, j, none⟩ = cs[j]? := cell_of_row w b j cs t _ h
theorem frozen_of {w : World} {b : Nat} {cs : Array Value} {t : TypeId} (h : w.heap[b]? = some (.cells cs t (0, 0))) (j : Nat) : w.frozen? ⟨b, j, none⟩ = false := frozen_of_row w b j cs t h
theorem set_of {w : World} {b : Nat} {cs : Array Value} {t : TypeId} (h : w.heap[b]? = some (.cells cs t (0, 0))) (j : Nat) (u : Value) : (w.setCell ⟨b, j, none⟩ u).heap[b]? = some (.cells (cs.setIfInBounds j u) t (0, 0)) :=
  heap_setCell_same w b j cs t u h
theorem lt_of {w : World} {b : Nat} {o : Obj} (h : w.heap[b]? = some o) : b < w.heap.size := (Array.getElem?_eq_some_iff.1 h).1
end Go.Proofs.YtfiplgplbjlpdaaGreatDoor
