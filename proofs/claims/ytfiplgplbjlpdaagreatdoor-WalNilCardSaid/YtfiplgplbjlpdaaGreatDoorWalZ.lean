/- Contracts: the law's own functions: awake, WalNil. -/
import Derived.Test.YtfiplgplbjlpdaaGreatDoorWalS
import Derived.Test.YtfiplgplbjlpdaaGreatDoorNamed
import Derived.Laws.IdiomStrings
import Derived.Lib.SlBytesConst
namespace Go.Proofs.YtfiplgplbjlpdaaGreatDoor
open Go.RowKit Go.Maps

theorem isLog_a : isLog ⟨#[97]⟩ = true := by decide
theorem isLog_log : isLog ⟨#[108, 111, 103]⟩ = true := by decide

set_option maxHeartbeats 1000000 in
theorem new_some (w : World) (room : Int) (_ : 100 ≤ room) : Calls Tryz.prog 10 #[.int .i64 room] w fun e w' => ∃ p mb room', e = .returned (.pointer (some ⟨p, 0, none⟩)) ∧ (2000 ≤ room → 2000 ≤ room') ∧ w.heap.size ≤ p ∧ w.heap.size ≤ mb ∧ Hid (Disk0 w' p mb room') ∧ Below w.heap.size w w' := by
  have hmm := @run_makeMap Tryz.prog
  go_enter Tryz.func10, Tryz.ntmps10
  go_wp2
  go_ret
  refine ⟨_, w.heap.size, room, rfl, id, by omega, by omega, ⟨⟨w.heap.size + 1, ?_⟩, ?_⟩, (((Below.refl _ w).alloc (Nat.le_refl _) _).alloc (by simp) _).alloc (by simp; omega) _⟩
  · have := heap_alloc_new ((w.alloc (.map #[] 0)).alloc (.map #[] 0)) (.cells #[.map (some w.heap.size), .map (some (w.heap.size + 1)), .slice none 0 0, .int .i64 room, .int .i64 (-1), .bool false] 75)
    simpa using this
  · exact ((World.ownsMap_made w Tryz.prog 9 heldR).alloc _).alloc _

theorem row_x (w : World) (S : Nat → Prop) (hS : S w.heap.size) : Bytes (w.alloc (.cells #[.int .u8 120] 5 (1, 2))) S (.slice (some ⟨w.heap.size, 0, none⟩) 1 1) [120] := by
  refine Row.mk w.heap.size 0 1 [[.int .u8 120]] hS (by simp) (by simp) (by decide) fun i cs h => ?_
  cases i with
  | zero =>
    simp only [List.getElem?_cons_zero, Option.some.injEq] at h
    subst h
    refine ⟨rfl, fun j v hv => ?_⟩
    cases j with
    | zero => simp only [List.getElem?_cons_zero, Option.some.injEq] at hv; subst hv; exact ⟨rfl, by rw [cell_of_row _ w.heap.size _ _ _ _ (heap_alloc_new w _)]; rfl⟩
    | succ j => simp at hv
  | succ i => simp at h
theorem convert_text (w : World) (S : Nat → Prop) (v : Value) (l : List UInt8) (h : Bytes w S v l) (hl : 0 < l.length) : (convert 23 9 v).run Tryz.prog w = .ok (.string ⟨l.toArray⟩) w := by
  obtain ⟨a, cap, rfl, hcap, hmax, ha⟩ := h.open
  rcases ha with ⟨rfl, rfl⟩ | ⟨b, o, rfl, _, _, hc⟩
  · omega
  · refine run_convert_bytes_back w _ _ _ ⟨b, o, none⟩ cap l Tryz.underlying23 Tryz.underlying5 Tryz.underlying9 fun j hj => ?_
    have := hc j _ (List.getElem?_eq_getElem hj)
    simp only [Addr.add]
    split
    · rename_i h0; subst h0; simpa using this
    · simpa using this

set_option maxRecDepth 100000 in
set_option maxHeartbeats 2000000 in
theorem awake_law (w : World) : Calls Tryz.prog 7 #[] w fun e w' => e = .returned (.bool true) ∧ Below w.heap.size w w' := by
  have hcv := fun (w : World) (C : Array Value) (n c : Nat) => Lib.run_convert_bytes_const (P := Tryz.prog) w 23 5 C n c Tryz.underlying23 Tryz.underlying5
  go_enter Tryz.func7, Tryz.ntmps7
  go_wp2_with (first
    | (go_at_call 10; refine (new_some w _ (by decide)).mono ?_; rintro e w1 ⟨p, mb, room, rfl, hr, hp, hm, hDh, hb1⟩; replace hr := hr (by decide))
    | (go_at_call 9; refine (open_good w1 p mb _ _ hDh.out isLog_a).mono ?_; rintro e w2 ⟨L, rfl, hL, hLf, hb2⟩; have hLh := Lib.hid hL; clear hL)
    | fail)
  have hbx : Below w2.heap.size w2 (w2.alloc (.cells #[.int .u8 120] 5 (1, 2))) := (Below.refl _ _).alloc (Nat.le_refl _) _
  have hD2 := (hDh.out.below hb2).below hbx
  have hL2 := hLh.out.below hbx
  have hrx : Bytes (w2.alloc (.cells #[.int .u8 120] 5 (1, 2))) (fun b => b = w2.heap.size) (.slice (some ⟨w2.heap.size, 0, none⟩) 1 1) [120] := row_x _ _ rfl
  have hpl : p < w2.heap.size := by have := lt_of hDh.out.1.choose_spec; have := hb2.size; omega
  have hml : mb < w2.heap.size := by have := hDh.out.2.lt; have := hb2.size; omega
  have hLl := lt_of hLh.out
  have happ := append_0 (w2.alloc (.cells #[.int .u8 120] 5 (1, 2))) L p mb room _ _ _ [120] hL2 hD2 isLog_a hrx (by decide) hr (by intro b hb; subst hb; omega)
  have happ' := Lib.hid happ
  clear hD2 hL2 hrx happ
  go_wp2_with (first
    | (go_at_call 14; refine happ'.out.mono ?_; rintro e w3 ⟨rfl, rb, c, v', c2, c3, cr, hv, hrb, hk⟩)
    | (go_at_call 13; refine (next_any w3 L 0 1 c _ c2 c3 (by omega) (by omega)).mono ?_; rintro e w4 ⟨rfl, hw⟩; subst hw)
    | (go_at_call 8; refine (get_first w3.drew L c rb _ v' [120] c2 c3 cr hv.drew (by simp [Few])).mono ?_; rintro e w5 ⟨v5, rfl, hv5, hb5⟩; have hct := convert_text w5 _ v5 [120] hv5 (by decide)))
  go_ret
  refine ⟨rfl, ?_⟩
  have hb2' := hb1.trans (hb2.mono hb1.size)
  have hb3 : Below w.heap.size w w3 := (hb2'.trans (hbx.mono hb2'.size)).trans ⟨hk.os, hk.tape, hk.output, hk.size, fun k h1 => hk.block k (by have := hb2'.size; simp; omega) (by have := hb1.size; omega)⟩
  exact hb3.trans ((((Below.refl _ w3).drew).trans hb5).mono (by have := hb3.size; simpa using this))

/-- Open on a new disk: the error is as the name. -/
theorem open_as (w : World) (p mb : Nat) (room : Int) (name : ByteArray) (b : Bool) (hD : Hid (Disk0 w p mb room)) (hs : name.size ≤ maxLen) (hb : Hid (isLog name = b)) :
    Calls Tryz.prog 9 #[.pointer (some ⟨p, 0, none⟩), .string name] w fun e w' => ∃ q, e = .returned (.tuple #[.pointer q, .int .i64 (bif b then 0 else 1)]) ∧ Below w.heap.size w w' := by
  cases b with
  | true => exact (open_good w p mb room name hD.out hb.out).mono fun e w' ⟨L, he, _, _, hb⟩ => ⟨_, he, hb⟩
  | false => exact (open_bad w _ name hs hb.out).mono fun e w' ⟨he, hb⟩ => ⟨_, he, hb⟩
theorem open_log (w : World) : Calls Tryz.prog 9 #[.pointer none, .string ⟨#[108, 111, 103]⟩] w fun e w' => e = .returned (.tuple #[.pointer none, .int .i64 6]) ∧ Below w.heap.size w w' := open_nil w _ isLog_log
theorem named_as (w : World) (s : ByteArray) (b : Bool) (hs : s.size ≤ maxLen) (hb : Hid (isLog s = b)) : Calls Tryz.prog 11 #[.string s] w fun e w' => e = .returned (.bool b) ∧ w' = w :=
  (named_law w s hs).mono fun e w' ⟨he, hw⟩ => ⟨by rw [he, hb.out], hw⟩

set_option maxRecDepth 100000 in
set_option maxHeartbeats 2000000 in
theorem walNil_law (w : World) (name : ByteArray) (n : Nat) (v : Value) (hs : name.size ≤ maxLen) :
    Calls Tryz.prog 3 #[.string name, .int .u64 (n : Int), v] w fun e w' => e = .returned (.bool true) ∧ Below w.heap.size w w' := by
  have hsh := Lib.hid hs
  clear hs
  have tok : True := trivial
  cases hl : isLog name
  all_goals
    have hl' := Lib.hid hl
    clear hl
    go_enter Tryz.func3, Tryz.ntmps3
    go_wp2_with (first
      | (go_at_call 7; refine (awake_law _).mono ?_; rintro e w1 ⟨rfl, hb1⟩)
      | (go_at_call 8; refine (get_nil _ n).mono ?_; rintro e w2 ⟨rfl, hw⟩; subst hw)
      | (go_at_call 10; refine (new_some _ _ (by decide)).mono ?_; rintro e w3 ⟨p, mb, room, rfl, hr, hp, hm, hDh, hb3⟩; have hb3' := hb1.trans (hb3.mono hb1.size))
      | (go_at_call 9; have _t := tok; refine (open_as _ p mb room name _ hDh hsh.out hl').mono ?_; rintro e w4 ⟨q, rfl, hb4⟩; clear tok _t; simp only [cond_true, cond_false]; have hb4' := hb3'.trans (hb4.mono hb3'.size))
      | (go_at_call 9; refine (open_log _).mono ?_; rintro e w5 ⟨rfl, hb5⟩; have hb5' := hb4'.trans (hb5.mono hb4'.size))
      | (go_at_call 11; refine (named_as _ name _ hsh.out hl').mono ?_; rintro e w6 ⟨rfl, hw⟩; subst hw)
      | (go_at_call 12; refine (first_nil _).mono ?_; rintro e w6 ⟨rfl, hw⟩; subst hw)
      | (go_at_call 13; refine (next_nil _).mono ?_; rintro e w6 ⟨rfl, hw⟩; subst hw)
      | (go_at_call 14; refine (append_nil _ v).mono ?_; rintro e w7 ⟨rfl, hb7⟩; have hb7' := hb5'.trans (hb7.mono hb5'.size))
      | (go_at_call 15; refine (sync_nil _).mono ?_; rintro e w8 ⟨rfl, hb8⟩; have hb8' := hb7'.trans (hb8.mono hb7'.size))
      | (go_at_call 16; refine (cut_nil _ n).mono ?_; rintro e w9 ⟨rfl, hb9⟩; have hb9' := hb8'.trans (hb9.mono hb8'.size))
      | (go_at_call 17; refine (trim_nil _ n).mono ?_; rintro e w10 ⟨rfl, hb10⟩; have hb10' := hb9'.trans (hb10.mono hb9'.size))
      | fail)
    go_ret
    exact ⟨rfl, hb10'⟩
end Go.Proofs.YtfiplgplbjlpdaaGreatDoor
