/- Contracts: wal.Open on a disk without files. -/
import Derived.Test.YtfiplgplbjlpdaaGreatDoorWalA
import Derived.Test.YtfiplgplbjlpdaaGreatDoorListD
import Derived.Recover
namespace Go.Proofs.YtfiplgplbjlpdaaGreatDoor
open Go.RowKit Go.Maps

theorem mixed : Tryz.prog.follows .mixedOrders = true := by kernel_rfl

theorem openDeferred_idle (w : World) (r e : Nat) (vr : Value) (hr : w.cell? ⟨r, 0, none⟩ = some vr) (_ : w.cell? ⟨e, 0, none⟩ = some (.int .i64 0)) :
    CallsD Tryz.prog 32 #[.pointer (some ⟨r, 0, none⟩), .pointer (some ⟨e, 0, none⟩)] .returning w fun x u' w' =>
      x = .returned (.tuple #[]) ∧ u' = .returning ∧ w' = w.drew := by
  refine callsD_of_wpS Tryz.func32 rfl fun c₀ cs hu => ?_
  refine wpS_seq ?_
  refine wpS_region_lins mixed [[0, 1, 2], [1, 0, 2]] (by kernel_rfl) fun l hl => ?_
  simp only [List.mem_cons, List.not_mem_nil, or_false] at hl
  rcases hl with rfl | rfl
  all_goals
    simp [wpOpsS, go_sem, recoverD, hu, Tryz.ntmps32, hr]
    refine (wcaught_idle _ _ _).mono ?_
    rintro e' w' ⟨rfl, rfl⟩
    simp only [Exit.thenS]
    refine wpS_of_wp ?_
    go_wp2
    cases c₀
    simp_all [bodyPostS, results, Tryz.results32]
end Go.Proofs.YtfiplgplbjlpdaaGreatDoor
