/- Contract: strconv.Itoa at small numbers. -/
import Derived.WalkKit
import Derived.Ground.NamesProg
import Derived.Shelf.Strconv.Itoa3
import Derived.Test.YtfiplgplbjlpdaaGreatDoorProg
import Derived.Test.YtfiplgplbjlpdaaGreatDoorShelf
namespace Go.Proofs.YtfiplgplbjlpdaaGreatDoor
open Go.RowKit Go.Shelf

theorem itoa_small (w : World) (i : Nat) (hi : i < 100) : Calls Tryz.prog 44 #[.int .i64 (i : Int)] w fun e w' => e = .returned (.string ⟨(Lib.decDigits i).toArray⟩) ∧ w' = w :=
  Any.strconv_Itoa_small Tryz.lays171 i hi w
theorem itoa_one (w : World) : Calls Tryz.prog 44 #[.int .i64 1] w fun e w' => e = .returned (.string ⟨#[49]⟩) ∧ w' = w := by
  have h := itoa_small w 1 (by decide)
  have hd : Lib.decDigits 1 = [49] := by rw [Lib.decDigits]; rfl
  rw [hd] at h
  exact h
end Go.Proofs.YtfiplgplbjlpdaaGreatDoor
