/- Regions that draw their order, walked along a plan: copies and loads are taken first, what writes comes up alone (or with one other). What the loads read has to hold behind an operation only if a load may come behind it. -/
import Derived.Orders
import Derived.OrdersHeld
import Derived.StillTail
import Derived.Deep.RegionHeld3
import Derived.Deep.DrawnRows
import Derived.Laws.AppendOwn
import Derived.Deep.AppendLies
import Derived.Laws.OwnMore
import Derived.Test.YtfiplgplbjlpdaaGreatDoorBase
namespace Go.Proofs.YtfiplgplbjlpdaaGreatDoor
open Go.RowKit

/-- A plan for a region: `take`: an operation that looks at no memory; `load`: one that does; `eff`: whatever else, alone; `two`: one of two, in either order. The Bool: may a load come behind it? -/
inductive Plan where
  | done
  | take (i : Nat) (p : Plan)
  | load (i : Nat) (p : Plan)
  | eff (i : Nat) (s : Bool) (p : Plan)
  | two (i : Nat) (s : Bool) (p : Plan) (j : Nat) (r : Bool) (q : Plan)

namespace Plan
def depth : Plan → Nat
  | done => 0
  | take _ p | load _ p | eff _ _ p => p.depth + 1
  | two _ _ p _ _ q => max p.depth q.depth + 1
/-- Does operation j wait for all loads? -/
def late (ops : Array Oper) (M : List Nat) (j : Nat) : Bool := M.all fun i => Region.waitsFor .any ops j i
/-- Does a plan fit a region? -/
def ok (ops : Array Oper) (M : List Nat) : Plan → Array Bool → Bool
  | done, l => (Region.ready .any ops l).isEmpty
  | take i p, l => (Region.ready .any ops l).contains i && Region.free .any ops l i && p.ok ops M (l.setIfInBounds i true)
  | load i p, l => (Region.ready .any ops l).contains i && Region.free .any ops l i && M.contains i && p.ok ops M (l.setIfInBounds i true)
  | eff i s p, l => Region.ready .any ops l == [i] && (s || late ops M i) && p.ok ops M (l.setIfInBounds i true)
  | two i s p j r q, l => Region.ready .any ops l == [i, j] && (s || late ops M i) && (r || late ops M j) && p.ok ops M (l.setIfInBounds i true) && q.ok ops M (l.setIfInBounds j true)

section
variable (P : Program) (ops : Array Oper) (Q : Exit → Act → World → Prop) (S : World → Prop)
def wp : Plan → Act → World → Prop
  | done, a, w => Q .normal a w
  | take i p, a, w => ∃ o v, ops[i]? = some o ∧ YieldsIf P ops (fun _ => True) o v a ∧ p.wp (a.put o.dst v) w
  | load i p, a, w => ∃ o v, ops[i]? = some o ∧ YieldsIf P ops S o v a ∧ S w ∧ p.wp (a.put o.dst v) w
  | eff i s p, a, w => wpOp P ops Q i (fun a' w' => (s = true → S w') ∧ p.wp a' w') a w
  | two i s p j r q, a, w => wpOp P ops Q i (fun a' w' => (s = true → S w') ∧ p.wp a' w') a w ∧ wpOp P ops Q j (fun a' w' => (r = true → S w') ∧ q.wp a' w') a w
end

section
variable {P : Program} {ops : Array Oper} {Q : Exit → Act → World → Prop} {S : World → Prop} {M : List Nat}

/-- Whatever order is picked, and whatever may have a load behind it keeps S. -/
def any (P : Program) (ops : Array Oper) (Q : Exit → Act → World → Prop) (S : World → Prop) (M : List Nat) : Nat → Array Bool → Act → World → Prop
  | 0, listed, a, w => Region.ready .any ops listed = [] ∧ Q .normal a w
  | fuel + 1, listed, a, w => (Region.ready .any ops listed = [] → Q .normal a w) ∧
    ∀ i ∈ Region.ready .any ops listed, wpOp P ops Q i (fun a' w' => (late ops M i = true ∨ (S w → S w')) ∧ any P ops Q S M fuel (listed.setIfInBounds i true) a' w') a w

theorem any_wp : ∀ (fuel : Nat) (listed : Array Bool) (a : Act) (w : World), any P ops Q S M fuel listed a w → wpAny P .any ops Q fuel listed a w
  | 0, _, _, _, h => h
  | fuel + 1, _, _, _, h => ⟨h.1, fun i hi => wpOp_mono (fun a' w' h' => any_wp fuel _ a' w' h'.2) (h.2 i hi)⟩
theorem any_done {listed : Array Bool} {a : Act} {w : World} (hr : Region.ready .any ops listed = []) (h : Q .normal a w) : ∀ fuel, any P ops Q S M fuel listed a w
  | 0 => ⟨hr, h⟩
  | _ + 1 => ⟨fun _ => h, by rw [hr]; simp⟩

/-- What waits for all loads doesn't come up while one of them is to come. -/
theorem not_late {listed : Array Bool} {i j : Nat} (hi : i ∈ M) (hun : listed.getD i true = false) (hj : j ∈ Region.ready .any ops listed) : late ops M j = false := by
  rw [Bool.eq_false_iff]
  intro h
  obtain ⟨oj, hoj, e, he, hb, heq⟩ := Region.waitsFor_spec (List.all_eq_true.1 h i hi)
  obtain ⟨_, o, ho, hall⟩ := mem_ready.1 hj
  rw [hoj] at ho
  obtain rfl := Option.some.inj ho
  have h1 := hall e he hb
  rw [heq] at h1
  rcases Nat.lt_or_ge i listed.size with h' | h'
  · simp [h'] at h1 hun; rw [hun] at h1; cases h1
  · simp [Array.getElem?_eq_none h'] at h1

theorem any_first {T : World → Prop} {i : Nat} {oi : Oper} {v : Value} (hi : ops[i]? = some oi) (hsel : ∀ (j : Nat) (o : Oper) cs b, ops[j]? = some o → o.op ≠ .select cs b)
    (hQ : ∀ c a w, Q (.panic c) (a.put oi.dst v) w → Q (.panic c) a w) (hT : (∀ w, T w) ∨ i ∈ M ∧ T = S) :
    ∀ (fuel : Nat) (listed : Array Bool) (a : Act) (w : World),
      (∀ j oj, ops[j]? = some oj → j ≠ i → listed.getD j true = false → (∀ e ∈ oj.after, Region.binds .any e = true → e.on ≠ i) → oi.apart ops oj = true) →
      i ∈ Region.ready .any ops listed → YieldsIf P ops T oi v a → T w →
      any P ops Q S M fuel (listed.setIfInBounds i true) (a.put oi.dst v) w → any P ops Q S M (fuel + 1) listed a w := by
  intro fuel
  induction fuel with
  | zero =>
    intro listed a w _ hr hy hS H
    refine ⟨fun h => (by rw [h] at hr; cases hr), fun j hj => ?_⟩
    by_cases hji : j = i
    · subst hji; exact hy.wpOp hi hS ⟨.inr id, H⟩
    · have := ready_mono hj hji
      rw [H.1] at this
      cases this
  | succ fuel ih =>
    intro listed a w hfree hr hy hS H
    refine ⟨fun h => (by rw [h] at hr; cases hr), fun j hj => ?_⟩
    by_cases hji : j = i
    · subst hji; exact hy.wpOp hi hS ⟨.inr id, H⟩
    · have h1 := H.2 j (ready_mono hj hji)
      obtain ⟨hjun, oj, hoj, hall⟩ := mem_ready.1 hj
      have hnot : ∀ e ∈ oj.after, Region.binds .any e = true → e.on ≠ i := fun e he hb heq => by
        have h1 := hall e he hb
        have h0 := (mem_ready.1 hr).1
        rw [heq] at h1
        rcases Nat.lt_or_ge i listed.size with h' | h'
        · simp [h'] at h0 h1; rw [h0] at h1; cases h1
        · simp [Array.getElem?_eq_none h'] at h1
      have h2 := wpOp_putIf hoj (hfree j oj hoj hji hjun hnot) (fun cs b => hsel i oi cs b hi) (fun cs b => hsel j oj cs b hoj) hQ hy h1
      have hfree' : ∀ k ok, ops[k]? = some ok → k ≠ i → (listed.setIfInBounds j true).getD k true = false →
          (∀ e ∈ ok.after, Region.binds .any e = true → e.on ≠ i) → oi.apart ops ok = true := fun k ok hk hki hun hno => by
        refine hfree k ok hk hki ?_ hno
        by_cases hjk : j = k
        · subst hjk; exact hjun
        · rw [getD_set_ne true hjk] at hun; exact hun
      refine wpOp_mono (fun a' w' h3 => ?_) h2
      obtain ⟨hy', hov, hany⟩ := h3
      have hT' : T w' := by
        rcases hT with h | ⟨hM, rfl⟩
        · exact h w'
        · exact hov.resolve_left (by rw [not_late hM (mem_ready.1 hr).1 hj]; simp) hS
      refine ⟨hov, ih (listed.setIfInBounds j true) a' w' hfree' (ready_mono hr (Ne.symm hji)) hy' hT' ?_⟩
      rw [Array.setIfInBounds_comm _ _ hji]
      exact hany

theorem any_of_wp (hs : Region.noSelect ops = true) (hQ : ∀ c a d v w, Q (.panic c) (a.put d v) w → Q (.panic c) a w) :
    ∀ (p : Plan) (fuel : Nat) (l : Array Bool) (a : Act) (w : World), p.depth ≤ fuel → p.ok ops M l = true → p.wp P ops Q S a w → any P ops Q S M fuel l a w := by
  intro p
  induction p with
  | done =>
    intro fuel l a w _ hok h
    exact any_done (by simpa [ok] using hok) h fuel
  | take i p ih =>
    intro fuel l a w hd hok h
    obtain ⟨fuel, rfl⟩ : ∃ n, fuel = n + 1 := ⟨fuel - 1, by simp only [depth] at hd; omega⟩
    simp only [ok, Bool.and_eq_true] at hok
    obtain ⟨o, v, ho, hy, h⟩ := h
    exact any_first ho (Region.noSelect_spec hs) (fun c a w h => hQ c a _ _ w h) (.inl fun _ => trivial) fuel l a w (Region.free_spec ho hok.1.2) (by simpa using hok.1.1) hy trivial
      (ih fuel _ _ _ (by simp only [depth] at hd; omega) hok.2 h)
  | load i p ih =>
    intro fuel l a w hd hok h
    obtain ⟨fuel, rfl⟩ : ∃ n, fuel = n + 1 := ⟨fuel - 1, by simp only [depth] at hd; omega⟩
    simp only [ok, Bool.and_eq_true] at hok
    obtain ⟨o, v, ho, hy, hS, h⟩ := h
    exact any_first ho (Region.noSelect_spec hs) (fun c a w h => hQ c a _ _ w h) (.inr ⟨by simpa using hok.1.2, rfl⟩) fuel l a w (Region.free_spec ho hok.1.1.2) (by simpa using hok.1.1.1) hy hS
      (ih fuel _ _ _ (by simp only [depth] at hd; omega) hok.2 h)
  | eff i s p ih =>
    intro fuel l a w hd hok h
    obtain ⟨fuel, rfl⟩ : ∃ n, fuel = n + 1 := ⟨fuel - 1, by simp only [depth] at hd; omega⟩
    simp only [ok, Bool.and_eq_true, beq_iff_eq, Bool.or_eq_true] at hok
    refine ⟨fun h0 => (by rw [h0] at hok; simp at hok), fun j hj => ?_⟩
    rw [hok.1.1] at hj
    obtain rfl : j = i := by simpa using hj
    refine wpOp_mono (fun a' w' h' => ⟨?_, ih fuel _ _ _ (by simp only [depth] at hd; omega) hok.2 h'.2⟩) h
    rcases hok.1.2 with h1 | h1
    · exact .inr fun _ => h'.1 h1
    · exact .inl h1
  | two i s p j r q ihp ihq =>
    intro fuel l a w hd hok h
    obtain ⟨fuel, rfl⟩ : ∃ n, fuel = n + 1 := ⟨fuel - 1, by simp only [depth] at hd; omega⟩
    simp only [ok, Bool.and_eq_true, beq_iff_eq, Bool.or_eq_true] at hok
    obtain ⟨⟨⟨⟨h0, h1⟩, h2⟩, h3⟩, h4⟩ := hok
    refine ⟨fun he => (by rw [he] at h0; simp at h0), fun k hk => ?_⟩
    rw [h0] at hk
    rcases (by simpa using hk : k = i ∨ k = j) with rfl | rfl
    · refine wpOp_mono (fun a' w' h' => ⟨?_, ihp fuel _ _ _ (by simp only [depth] at hd; omega) h3 h'.2⟩) h.1
      rcases h1 with h1 | h1
      · exact .inr fun _ => h'.1 h1
      · exact .inl h1
    · refine wpOp_mono (fun a' w' h' => ⟨?_, ihq fuel _ _ _ (by simp only [depth] at hd; omega) h4 h'.2⟩) h.2
      rcases h2 with h1 | h1
      · exact .inr fun _ => h'.1 h1
      · exact .inl h1
end

/-! ### The moves of a walk -/
section
variable {P : Program} {ops : Array Oper} {Q : Exit → Act → World → Prop} {S : World → Prop} {a : Act} {w : World}

/-- The beginning. -/
theorem begin (p : Plan) (M : List Nat) (S : World → Prop) {id : Nat} (hm : P.follows .mixedOrders = true) (hB : (Region.noSelect ops && (decide (p.depth ≤ ops.size) && p.ok ops M (Array.replicate ops.size false))) = true)
    (hQ : ∀ c a d v w, Q (.panic c) (a.put d v) w → Q (.panic c) a w) (hS : S w.drew) (h : S w.drew → p.wp P ops Q S a w.drew) : (Code.region id ops true).wp P Q a w := by
  simp only [Bool.and_eq_true, decide_eq_true_eq] at hB
  exact wp_region_any hm (any_wp _ _ _ _ (any_of_wp hB.1 hQ p _ _ _ _ hB.2.1 hB.2.2 (h hS)))
theorem wp_done (h : Q .normal a w) : done.wp P ops Q S a w := h
theorem nth_of {i : Nat} {o : Oper} {rest : List Oper} (h : ops.toList.drop i = o :: rest) : ops[i]? = some o := by
  have := congrArg (·[0]?) h
  simpa using this
theorem wp_take {i : Nat} {o : Oper} {rest : List Oper} {v : Value} {p : Plan} (ho : ops.toList.drop i = o :: rest) (hw : Region.wanted o (yielded ops a.tmps) = true) (hv : ∀ w, (execOp a.eval o).run P w = .ok (.value v) w)
    (h : p.wp P ops Q S (a.put o.dst v) w) : (take i p).wp P ops Q S a w := ⟨o, v, nth_of ho, .inl ⟨hw, fun w _ => hv w⟩, h⟩
theorem wp_load {i : Nat} {o : Oper} {rest : List Oper} {v : Value} {p : Plan} (ho : ops.toList.drop i = o :: rest) (hS : S w) (hw : Region.wanted o (yielded ops a.tmps) = true) (hv : ∀ w, S w → (execOp a.eval o).run P w = .ok (.value v) w)
    (h : p.wp P ops Q S (a.put o.dst v) w) : (load i p).wp P ops Q S a w := ⟨o, v, nth_of ho, .inl ⟨hw, fun w h => hv w h⟩, hS, h⟩
/-- An operation whose guard says no. -/
theorem wp_skip {i : Nat} {o : Oper} {rest : List Oper} {p : Plan} (ho : ops.toList.drop i = o :: rest) (hw : Region.wanted o (yielded ops a.tmps) = false)
    (h : p.wp P ops Q S (a.put o.dst undef) w) : (take i p).wp P ops Q S a w := ⟨o, undef, nth_of ho, .inr ⟨hw, rfl⟩, h⟩
theorem wp_eff {i : Nat} {o : Oper} {rest : List Oper} {p : Plan} (ho : ops.toList.drop i = o :: rest) (hw : Region.wanted o (yielded ops a.tmps) = true)
    (h : ∀ K : Act → World → Prop, Shut (∀ a w, S w → (S w → p.wp P ops Q S a w) → K a w) → Oper.wp P o a w K Q) : (eff i true p).wp P ops Q S a w := by
  show wpOp P ops Q i _ a w
  unfold wpOp
  simp only [nth_of ho, hw, if_true]
  exact .inl (h _ fun a w hS hp => ⟨fun _ => hS, hp hS⟩)
theorem wp_last {i : Nat} {o : Oper} {rest : List Oper} {p : Plan} (ho : ops.toList.drop i = o :: rest) (hw : Region.wanted o (yielded ops a.tmps) = true)
    (h : ∀ K : Act → World → Prop, Shut (∀ a w, p.wp P ops Q S a w → K a w) → Oper.wp P o a w K Q) : (eff i false p).wp P ops Q S a w := by
  show wpOp P ops Q i _ a w
  unfold wpOp
  simp only [nth_of ho, hw, if_true]
  exact .inl (h _ fun a w hp => ⟨fun h => (by cases h), hp⟩)
theorem wp_two {i j : Nat} {s r : Bool} {p q : Plan} (h1 : (eff i s p).wp P ops Q S a w) (h2 : (eff j r q).wp P ops Q S a w) : (two i s p j r q).wp P ops Q S a w := ⟨h1, h2⟩
end
end Plan

/-- append(s, x...) where s is the call's own and x any row: at the operation. -/
theorem wp_append_row {P : Program} {w : World} {o : Oper} {a : Act} {K : Act → World → Prop} {Q : Exit → Act → World → Prop} (s x : Operand) (v u : Value) {t e : TypeId} {sz bytes : Nat} (hE : Elem P t e sz bytes)
    (ho : o.op = .call { callee := .builtin .append, args := #[s, x], argTypes := #[t, t] })
    {base : Nat} {css news : List (List Value)} (hs : a.eval s = v) {S : Nat → Prop} (hx : a.eval x = u) (hown : Own w base e sz v css) (hrow : Row w S sz u news)
    (hfew : Few (css.length + news.length)) (hbase : base ≤ w.heap.size)
    (h : ∀ v' w', Own w' base e sz v' (css ++ news) → Below base w w' → w.grownBy w' v.ownBlock → (v' = .slice none 0 0 ↔ v = .slice none 0 0 ∧ news = []) → K (a.put o.dst v') w') : o.wp P a w K Q := by
  have h63 := hfew.max
  have hbytes := hfew.mul hE.small
  have hbel : ∀ w', w.grownBy w' v.ownBlock → Below base w w' := fun w' hg => (Below.refl base w).grown hg hbase fun k hk => (hown.1.lt k hk).1
  obtain ⟨i, z, hi, hz, h4, h5, h6⟩ := hE.info
  cases hrow with
  | nil =>
    have hrun := run_append_owned_none (P := P) (w := w) base t o.type e i sz hE.und hi v css.length css.flatten hown.1
    unfold Oper.wp
    simp [execOp, ho, resolve, invoke, builtin, hs, hx, hrun, Result.andThen]
    exact h v w (by simpa using hown) (Below.refl _ _) ⟨rfl, rfl, rfl, Nat.le_refl _, fun _ _ _ => rfl⟩ (by simp)
  | mk b o' cap _ hS hb hcap hmax hc =>
    have hlen : ∀ cs ∈ news, cs.length = sz := fun cs hm => by
      obtain ⟨n, hn⟩ := List.getElem?_of_mem hm
      exact (hc n cs hn).1
    refine wp_append_own w s x t ho base e i z sz bytes hE.und hi hz h4 h5 h6 hE.pos v css.length css.flatten hs hown.1 ⟨b, o', none⟩ news.length cap news.flatten hx (length_flatten_sz hlen) ?_ ?_ h63 hbytes hbase ?_
    · intro j u hj
      obtain ⟨cs, h1, h2⟩ := at_flatten hE.pos hlen j u hj
      have := ((hc _ cs h1).2 _ u h2).2
      rw [← this]
      simp only [Addr.add]
      split
      · rename_i h0; subst h0; simp
      · congr 2; rw [Nat.add_assoc, Nat.div_add_mod' j sz]
    · intro u hu
      obtain ⟨cs, h1, h2⟩ := List.mem_flatten.1 hu
      obtain ⟨n, hn⟩ := List.getElem?_of_mem h1
      obtain ⟨m, hm⟩ := List.getElem?_of_mem h2
      exact ((hc n cs hn).2 m u hm).1
    · intro v' w' hown' hgr hnil
      refine h v' w' ⟨by rw [List.length_append, List.flatten_append]; exact hown', ?_⟩ (hbel w' hgr) hgr (by rw [hnil]; simp)
      intro cs hm
      rcases List.mem_append.1 hm with hm | hm
      · exact hown.2 cs hm
      · obtain ⟨n, hn⟩ := List.getElem?_of_mem hm
        exact ⟨hlen cs hm, fun u hu => by obtain ⟨m, hm⟩ := List.getElem?_of_mem hu; exact ((hc n cs hn).2 m u hm).1⟩
theorem Own.form1 {w : World} {base : Nat} {e : TypeId} {sz : Nat} {v : Value} {cs : List Value} (h : Own w base e sz v [cs]) : ∃ g c, v = .slice (some ⟨g, 0, none⟩) 1 c ∧ base ≤ g ∧ g < w.heap.size := h.1.form (by simp)
/-- A slice of one element that was just built, behind a draw. -/
theorem row_built {w : World} (e : TypeId) (cs : List Value) (h : ∀ u ∈ cs, u.oneCell' = true) : Row (w.alloc (.cells cs.toArray e)).drew (fun _ => True) cs.length (.slice (some ⟨w.heap.size, 0, none⟩) 1 1) [cs] :=
  (((Own.lit (base := 0) e cs.length [cs] cs.toArray (by simp) (by simpa using h) (by simp [Few]) (Nat.zero_le _)).row).mono fun _ _ => trivial).drew
theorem row_built0 {w : World} (e : TypeId) (cs : List Value) (h : ∀ u ∈ cs, u.oneCell' = true) : Row (w.alloc (.cells cs.toArray e)) (fun _ => True) cs.length (.slice (some ⟨w.heap.size, 0, none⟩) 1 1) [cs] :=
  ((Own.lit (base := 0) e cs.length [cs] cs.toArray (by simp) (by simpa using h) (by simp [Few]) (Nat.zero_le _)).row).mono fun _ _ => trivial
theorem Own.at1 {w : World} {base : Nat} {e : TypeId} {g c : Nat} {u : Value} (h : Own w base e 1 (.slice (some ⟨g, 0, none⟩) 1 c) [[u]]) : w.cell? ⟨g, 0, none⟩ = some u := by
  have := (((h.row.inv).2.2.2.2.2 0 [u] rfl).2 0 u rfl).2
  simpa using this
end Go.Proofs.YtfiplgplbjlpdaaGreatDoor
