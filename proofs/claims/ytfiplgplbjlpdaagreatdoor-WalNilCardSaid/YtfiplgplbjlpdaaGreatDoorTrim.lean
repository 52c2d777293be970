/- Contracts: strings.Trim at the letters and at a file name's bytes. -/
import Derived.WalkKit
import Derived.Ground.NamesProg
import Derived.Shelf.Strings.SlTrimAscii
import Derived.Test.YtfiplgplbjlpdaaGreatDoorBase
import Derived.Test.YtfiplgplbjlpdaaGreatDoorProg
import Derived.Test.YtfiplgplbjlpdaaGreatDoorShelf
namespace Go.Proofs.YtfiplgplbjlpdaaGreatDoor
open Go.RowKit Go.Shelf


/-- The letters. -/
def letters : List UInt8 := [97, 98, 99, 100, 101, 102, 103, 104, 105, 106, 107, 108, 109, 110, 111, 112, 113, 114, 115, 116, 117, 118, 119, 120, 121, 122]
/-- The bytes of a file's name. -/
def nameBytes : List UInt8 := letters ++ [48, 49, 50, 51, 52, 53, 54, 55, 56, 57, 46]
/-- All of a text's bytes are among some. -/
def allIn (cs l : List UInt8) : Bool := l.all (cs.contains ·)

theorem dropWhile_nil {α : Type} (p : α → Bool) (l : List α) : l.dropWhile p = [] ↔ ∀ b ∈ l, p b = true := by
  induction l with
  | nil => simp
  | cons x l ih =>
    rw [List.dropWhile_cons]
    by_cases h : p x = true
    · simp [h, ih]
    · simp [h]

theorem trimS_nil (cs l : List UInt8) : Lib.trimS l cs = [] ↔ allIn cs l = true := by
  have hall : ∀ k : List UInt8, k.all (cs.contains ·) = true ↔ ∀ b ∈ k, cs.contains b = true := fun k => List.all_eq_true
  have h1 : l.reverse = l.reverse.takeWhile (cs.contains ·) ++ l.reverse.dropWhile (cs.contains ·) := (List.takeWhile_append_dropWhile ..).symm
  have h2 : ∀ b ∈ l.reverse.takeWhile (cs.contains ·), cs.contains b = true := fun b hb => by
    have := List.all_takeWhile (l := l.reverse) (p := (cs.contains ·))
    exact (hall _).1 this b hb
  unfold Lib.trimS Lib.trimLeftS Lib.trimRightS allIn
  rw [dropWhile_nil, hall]
  constructor
  · intro h b hb
    have hb' : b ∈ l.reverse := List.mem_reverse.2 hb
    rw [h1, List.mem_append] at hb'
    rcases hb' with hb' | hb'
    · exact h2 b hb'
    · exact h b (List.mem_reverse.2 hb')
  · intro h b hb
    refine h b (List.mem_reverse.1 ?_)
    rw [h1, List.mem_append]
    exact .inr (List.mem_reverse.1 hb)

/-- What Trim's answer is good for: it is empty just where all bytes are in the cutset. -/
def Trims (w : World) (cs : List UInt8) (s : ByteArray) (e : Ending) (w' : World) : Prop :=
  (∃ r : ByteArray, e = .returned (.string r) ∧ (r = ⟨#[]⟩ ↔ allIn cs s.data.toList = true)) ∧ Below w.heap.size w w'

theorem trims_of {P : Program} {f : FuncId} {w : World} {s c : ByteArray} {cs : List UInt8} (hc : c.data.toList = cs)
    (h : Calls P f #[.string s, .string c] w fun e w' => e = .returned (.string ⟨(Lib.trimS s.data.toList c.data.toList).toArray⟩) ∧ Below w.heap.size w w') : Calls P f #[.string s, .string c] w (Trims w cs s) :=
  h.mono fun e w' ⟨he, hb⟩ => ⟨⟨_, he, by
    rw [← trimS_nil, ← hc]
    constructor
    · intro h
      have := congrArg (fun b : ByteArray => b.data.toList) h
      simpa using this
    · intro h; rw [h]⟩, hb⟩

theorem trim_letters (w : World) (s : ByteArray) (hs : s.size ≤ 9223372036854775807) : Calls Tryz.prog 31 #[.string s, .string ⟨letters.toArray⟩] w (Trims w letters s) := by
  have h := Any.strings_Trim_laid Tryz.lays160 (by kernel_rfl) s ⟨letters.toArray⟩ w hs (by decide) (ascii_of_all (by decide))
  exact trims_of (by simp) h
theorem trim_name (w : World) (s : ByteArray) (hs : s.size ≤ 9223372036854775807) : Calls Tryz.prog 31 #[.string s, .string ⟨nameBytes.toArray⟩] w (Trims w nameBytes s) := by
  have h := Any.strings_Trim_laid Tryz.lays160 (by kernel_rfl) s ⟨nameBytes.toArray⟩ w hs (by decide) (ascii_of_all (by decide))
  exact trims_of (by simp) h
end Go.Proofs.YtfiplgplbjlpdaaGreatDoor
