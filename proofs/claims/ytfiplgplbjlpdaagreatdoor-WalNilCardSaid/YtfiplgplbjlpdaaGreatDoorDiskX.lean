/- Contract: (*disk.Disk).Write into a disk without files. -/
import Derived.Test.YtfiplgplbjlpdaaGreatDoorDiskW
namespace Go.Proofs.YtfiplgplbjlpdaaGreatDoor
open Go.RowKit Go.Maps
attribute [local go_sem ↓] Go.wp_at_zero Go.wp_at_succ

set_option maxRecDepth 100000 in
set_option maxHeartbeats 300000 in
theorem write_0 (w : World) (p mb : Nat) (room : Int) (S : Nat → Prop) (name : ByteArray) (v : Value) (b : List UInt8)
    (h : Disk0 w p mb room) (hs : isName name = true) (hb : Bytes w S v b) (hb0 : 0 < b.length) (hbl : Few b.length) (hr : (b.length : Int) ≤ room) :
    Calls Tryz.prog 43 #[.pointer (some ⟨p, 0, none⟩), .string name, .int .i64 0, v] w fun e w' => e = .returned (.int .i64 0) ∧ Keeps (fun x => x = p ∨ x = mb) w w' := by
  have hs16 : name.size ≤ 16 := by
    unfold isName at hs
    simp only [Bool.and_eq_true, decide_eq_true_eq] at hs
    exact hs.1.2
  have hrow := Lib.hid hb
  have hkey : keyOf Tryz.prog 9 (.string name) = some (.string name.data.toList) := Go.WideMaps.keyOf_string_mk Tryz.underlying9 (by unfold maxLen; omega)
  obtain ⟨a, cap, rfl, _, hmax, _⟩ := hb.open
  have hbl2 : b.length ≤ 1000000000 := hbl
  unfold maxLen at hmax
  have hlook : ∀ W, Below w.heap.size w W → (Instr.lookup 72 (.map (some mb)) (.string name) false).run Tryz.prog W = .ok (.slice none 0 0) W := fun W hW => by
    obtain ⟨v, ps, hrun, hv⟩ := World.ownsMap.lookup (h.below hW).2 keyS Tryz.underlying72 (zeroBytes _) (R := heldR) rfl hkey
    obtain rfl : v = .slice none 0 0 := by simpa [heldR, DataW.atKey] using congrArg (Option.map Prod.fst) hv
    exact hrun
  go_enter Tryz.func43, Tryz.ntmps43
  go_wp2_with (first
    | (go_at_call 62; refine (lost_0 _ p mb room h).mono ?_; rintro e w1 ⟨rfl, rfl⟩)
    | (go_at_call 85; refine (named_yes _ name hs).mono ?_; rintro e w2 ⟨rfl, hb2⟩; have hl2 := hlook _ hb2; obtain ⟨c0, c2, c3, c4, c5⟩ := (h.below hb2).cells))
  have hD2 := h.below hb2
  have hD2' : ∀ W, Below w2.heap.size w2 W → Disk0 W p mb room := fun W hW => hD2.below hW
  have hpl : p < w2.heap.size := lt_of hD2.1.choose_spec
  have hmax0 : max room 0 = room := by omega
  have hwr : IntKind.i64.wrap ((b.length : Nat) : Int) = (b.length : Int) := IntWalk.i64_in _ ⟨by omega, by omega⟩
  have hcmp : decide (room < (b.length : Int)) = false := by simp; omega
  have hs2 := Lib.hid hs; have hb0' := Lib.hid hb0; have hD2h := Lib.hid hD2
  clear hl2 hlook hs hkey hb h hD2 c0 c2 c4 c5 hmax
  go_region_held3 (fun W => W.cell? ⟨p, 3, none⟩ = some (.int .i64 room)) (first | go_keep | exact (hb3.cell (p := ⟨p, 3, none⟩) hpl).trans c3)
    ((go_at_call 29; refine (used_0 _ p mb room (hD2' _ (Below.refl _ _).drew)).mono ?_; rintro e w3 ⟨rfl, hb3'⟩; have hb3 : Below w2.heap.size w2 w3 := (Below.refl w2.heap.size w2).drew.trans hb3'; clear hb3'))
  all_goals go_wp2_with (go_at_call 30; refine (clone_bytes _ S _ _ (Row.keep hrow.out (.of_below (hb2.trans (hb3.mono hb2.size)))) (by simpa using hbl)).mono ?_; rintro e w4 ⟨v4, rfl, hv4, hb4⟩; have hv5 := hv4; obtain ⟨a4, cap4, rfl, _, _, _⟩ := Bytes.open hv5; clear hv5)
  all_goals first
    | (exfalso; omega)
    | (have hw := wait_write w4 p mb room (fun x => w3.heap.size ≤ x) name ⟨#[]⟩ 0 (.slice a4 b.length cap4) b ((hD2' _ hb3).below hb4) (by unfold maxLen; omega) hv4 hb0'.out (by simp [Few]) hbl
       rw [show ((0 : Nat) : Int) = 0 from rfl] at hw
       refine hw.mono ?_
       rintro e w5 ⟨rfl, hk5⟩
       go_wp2
       go_ret
       exact ⟨rfl, (((Keeps.of_below hb2).trans (.of_below hb3)).trans (.of_below hb4)).trans hk5⟩)
end Go.Proofs.YtfiplgplbjlpdaaGreatDoor
