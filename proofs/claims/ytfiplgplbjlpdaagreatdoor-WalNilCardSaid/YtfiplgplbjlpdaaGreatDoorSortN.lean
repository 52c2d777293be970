/- Contract: slices.SortFunc at no segment. -/
import Derived.Shelf.SlSortCmp.NoneTotal
import Derived.Ground.SlsfProg
import Derived.Test.YtfiplgplbjlpdaaGreatDoorProg
import Derived.Test.YtfiplgplbjlpdaaGreatDoorShelf
namespace Go.Proofs.YtfiplgplbjlpdaaGreatDoor
open Go.RowKit Go.Shelf Go.Sort


theorem sort_none (fv : Value) (w : World) : Calls Tryz.prog 77 #[.slice none 0 0, fv] w fun e w' => e = .returned (.tuple #[]) ∧ Below w.heap.size w w' :=
  (AnyF.slices_SortFunc_none (P := Tryz.prog) (ρ := Tryz.sortF_ren) { Tryz.sortF with } none 0 fv w).mono fun e w' ⟨he, hw⟩ => ⟨he, by subst hw; exact .refl _ _⟩
end Go.Proofs.YtfiplgplbjlpdaaGreatDoor
