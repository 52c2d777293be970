/- Words for functions that defer a closure which calls recover: a region that draws its order, inside a deferred call. -/
import Derived.Test.YtfiplgplbjlpdaaGreatDoorBase
import Derived.Orders
import Derived.Recover
namespace Go.Proofs.YtfiplgplbjlpdaaGreatDoor
open Go.RowKit

/-- All orders in which a region's operations may come. -/
def lins (md : Region.Mode) (ops : Array Oper) : Nat → Array Bool → List (List Nat)
  | 0, _ => [[]]
  | n + 1, listed => match Region.ready md ops listed with
    | [] => [[]]
    | rs => rs.flatMap fun i => (lins md ops n (listed.setIfInBounds i true)).map (i :: ·)

theorem mem_lins (md : Region.Mode) (ops : Array Oper) : ∀ (n t : Nat) (listed : Array Bool), Region.linearise.go md ops n t listed [] ∈ lins md ops n listed := by
  intro n
  induction n with
  | zero => intro t listed; simp [Region.linearise.go, lins]
  | succ n ih =>
    intro t listed
    simp only [Region.linearise.go, lins]
    change (match (Region.ready md ops listed)[t % (Region.ready md ops listed).length]? with
      | some i => Region.linearise.go md ops n (t / (Region.ready md ops listed).length) (listed.setIfInBounds i true) [i]
      | none => [].reverse) ∈ _
    cases hr : Region.ready md ops listed with
    | nil => simp
    | cons x xs =>
      have hlt : t % (x :: xs).length < (x :: xs).length := Nat.mod_lt _ (by simp)
      rw [List.getElem?_eq_getElem hlt]
      simp only
      rw [linearise_go_acc, List.reverse_singleton, List.singleton_append]
      exact List.mem_flatMap.2 ⟨_, List.getElem_mem hlt, List.mem_map.2 ⟨_, ih _ _, rfl⟩⟩

theorem wpS_region_lins {P : Program} {ops : Array Oper} {Q : Exit → Act → List Frame → World → Prop} {a : Act} {cs : List Frame} {w : World} {id : Nat} (hm : P.follows .mixedOrders = true)
    (L : List (List Nat)) (hL : lins .any ops ops.size (Array.replicate ops.size false) = L) (h : ∀ l ∈ L, wpOpsS P ops Q l a cs w.drew) : (Code.region id ops true).wpS P Q a cs w := by
  intro b k hb hr
  have hmem : Region.schedule (P.follows .mixedOrders) ops (w.tape w.drawn (.order b.fn id)) ∈ L := by
    rw [← hL]
    simp only [Region.schedule, hm, Bool.true_or, if_true]
    exact mem_lins _ _ _ _ _
  obtain ⟨e, a', cs', w', q, r⟩ := wp_opsS _ a cs w.drew (h _ hmem) b k hb hr
  exact ⟨e, a', cs', w', q, .of_steps (.one step_region_draw) r⟩
end Go.Proofs.YtfiplgplbjlpdaaGreatDoor
