/- Contract: frame.Lay at one record: its length, its bytes, four bytes more. -/
import Derived.Test.YtfiplgplbjlpdaaGreatDoorCrcJ
namespace Go.Proofs.YtfiplgplbjlpdaaGreatDoor
open Go.RowKit

theorem be_length : ∀ k n, (be k n).length = k := by
  intro k
  induction k with
  | zero => intro n; rfl
  | succ k ih => intro n; simp [be, ih]
theorem numB_length (n : Nat) : (numB n).length = 1 + blen n ∧ blen n ≤ 8 := by
  have := bitLen_le n
  constructor
  · simp [numB, be_length]; omega
  · unfold blen; omega

/-- The four bytes of a number of 32 bits, the highest first. -/
def crcB (x : Int) : List UInt8 := [UInt8.ofNat (x / 16777216 % 256).toNat, UInt8.ofNat (x / 65536 % 256).toNat, UInt8.ofNat (x / 256 % 256).toNat, UInt8.ofNat (x % 256).toNat]
theorem byte_of (y : Int) : ((UInt8.ofNat (y % 256).toNat).toNat : Int) = y % 256 := by
  rw [UInt8.toNat_ofNat']
  have : (y % 256).toNat < 256 := by omega
  simp only [Nat.reducePow]
  rw [Nat.mod_eq_of_lt this]
  omega
theorem bcells_crcB (x : Int) : bcells (crcB x) = [[.int .u8 (x / 16777216 % 256)], [.int .u8 (x / 65536 % 256)], [.int .u8 (x / 256 % 256)], [.int .u8 (x % 256)]] := by
  simp only [bcells, crcB, List.map_cons, List.map_nil, byte_of]

/-- What Lay gives at one record. -/
def Laid (w : World) (l : List UInt8) (e : Ending) (w' : World) : Prop :=
  ∃ v s, e = .returned (.tuple #[v, .int .i64 0]) ∧ s.length = 4 ∧ Own w' w.heap.size 5 1 v (bcells (numB l.length ++ l ++ s)) ∧ Below w.heap.size w w'

set_option maxHeartbeats 2000000 in
theorem lay_one (w : World) (S : Nat → Prop) (g : Nat) (v : Value) (l : List UInt8) (hg : w.cell? ⟨g, 0, none⟩ = some v) (hgw : g < w.heap.size) (h : Bytes w S v l) (hl : l.length ≤ 32768) :
    Calls Tryz.prog 40 #[.slice (some ⟨g, 0, none⟩) 1 1] w (Laid w l) := by
  have hrow := Lib.hid h
  obtain ⟨a, cap, rfl, hcap, hmax, ha⟩ := h.open
  clear h ha
  have hl1 : l.length ≤ 1000000000 := by omega
  unfold maxLen at hmax
  have hu : U64 l.length := by unfold U64; omega
  have hl2 := Lib.hid hl; clear hl
  obtain ⟨hn, hn8⟩ := numB_length l.length
  go_enter Tryz.func40, Tryz.ntmps40
  go_wp2
  go_loopw [4, 11] (fun o i wr => (o = .slice none 0 0 ∧ i = .int .i64 0 ∧ wr = w) ∨ (∃ s, s.length = 4 ∧ Own wr w.heap.size 5 1 o (bcells (numB l.length ++ l ++ s)) ∧ Below w.heap.size w wr ∧ i = .int .i64 1)) (fun _ i _ => (1 - intOf i).toNat)
  case atStart => exact .inl ⟨rfl, rfl, rfl⟩
  case round =>
    rcases hrel with ⟨rfl, rfl, rfl⟩ | ⟨s, hs, ho, hB, rfl⟩
    · have hsz4 : Few (numB l.length).length := by rw [hn]; simp only [Few]; omega
      go_wp2_with (first
        | (go_at_call 45; refine (num_any _ l.length hu).mono ?_; rintro e w1 ⟨v1, rfl, ho1, hb1⟩)
        | (go_at_call 84; have _t := ho1; refine (sum_any _ (fun b => wr.heap.size ≤ b) v1 (numB l.length) ho1.row).mono ?_; rintro e w2 ⟨x2, rfl, hx2, hb2⟩; have ho2 := ho1.below hb2 (fun k hk => (ho1.lt k hk).2); clear ho1 _t)
        | (go_at_call 84; refine (sum_any _ S _ l (hrow.out.keep (.of_below (hb1.trans (hb2.mono hb1.size))))).mono ?_; rintro e w3 ⟨x3, rfl, hx3, hb3⟩)
        | (go_at_call 83; refine (join_any _ x2 x3 l.length hx2 hu).mono ?_; rintro e w4 ⟨x4, rfl, hx4, hb4⟩; have hB4 : Below wr.heap.size wr w4 := ((hb1.trans (hb2.mono hb1.size)).trans (hb3.mono (Nat.le_trans hb1.size hb2.size))).trans (hb4.mono (Nat.le_trans hb1.size (Nat.le_trans hb2.size hb3.size))); have ho4 := ho2.below (hb3.trans (hb4.mono hb3.size)) (fun k hk => (ho2.lt k hk).2); clear ho2)
        | (at_builtin; refine wpList_append_row (.tmp 30) (.tmp 31) (.slice none 0 0) v1 el_bytes rfl rfl rfl rfl (Own.nil _ wr.heap.size _ _) ho4.row (by simpa [bcells] using hsz4) hB4.size ?_; intro v5 w5 ho5 hb5 hg5 hn5; clear hg5 hn5; have hB5 := hB4.trans hb5; have hrec := hrow.out.keep (.of_below hB5))
        | (at_builtin; refine wpList_append_row (.tmp 32) (.tmp 33) v5 (.slice a l.length cap) el_bytes rfl rfl rfl rfl ho5 hrec (by simp only [bcells, List.length_map, List.nil_append, hn, Few]; omega) hB5.size ?_; intro v6 w6 ho6 hb6 hg6 hn6; clear hg6 hn6; have hB6 := hB5.trans hb6)
        | (at_builtin; refine wpList_append_row (.tmp 34) (.tmp 46) v6 (.slice (some ⟨w6.heap.size, 0, none⟩) 4 4) el_bytes rfl rfl rfl rfl (ho6.alloc _) (Own.lit (base := 0) 5 1 (bcells (crcB x4)) _ (by rw [bcells_crcB]; rfl) (by rw [bcells_crcB]; simp [Value.oneCell']) (by rw [bcells_crcB]; simp [Few]) (Nat.zero_le _)).row (by simp only [bcells, List.length_append, List.length_map, List.nil_append, hn, Few, crcB, List.length_cons, List.length_nil]; omega) (by simp; have := hB6.size; omega) ?_; intro v7 w7 ho7 hb7 hg7 hn7; clear hg7 hn7))
      · exfalso; have := hl2.out; omega
      · go_roundw
        case rel => exact .inr ⟨crcB x4, rfl, by simpa [bcells] using ho7, (hB6.alloc hB6.size _).trans hb7, rfl⟩
        case measure => simp [intOf]
    · go_wp2
      refine bodyPost_ret (results_tmp2 rfl _ _ _) rfl ?_
      exact ⟨_, s, rfl, hs, ho, hB⟩
end Go.Proofs.YtfiplgplbjlpdaaGreatDoor
