/-
  The law: SlotsKnown.
-/
import Derived.Test.YtfcialmdediojaaLawD2
import Derived.Lib.SmallJoins
namespace Go.Proofs.Ytfcialmdediojaa
set_option linter.unusedVariables false
set_option linter.unusedSimpArgs false
open Go.RowKit
theorem made_bytes (n : Nat) : madeCells (Value.int .u8 0).cells (n * 1) = (bytesV (zeros n)).toArray := by
  unfold madeCells
  rw [Nat.mul_one]
  apply Array.ext_getElem?
  intro j
  by_cases hj : j < n
  · simp [Value.cells, bytesV, zeros, byteV, hj, Nat.mod_one]
  · rw [Array.getElem?_eq_none (by simp; omega), Array.getElem?_eq_none (by simp [bytesV, zeros]; omega)]
def KRel1 (w : World) (i v : Value) (wr : World) : Prop := (i = .int .i64 0 ∧ v = .pointer none ∧ wr = w) ∨ (i = .int .i64 1 ∧ ∃ s, v = .pointer (some ⟨s, 0, none⟩) ∧ Below w.heap.size w wr ∧ wr.cell? ⟨s, 0, none⟩ = some (.pointer none)) ∨ (i = .int .i64 2 ∧ Below w.heap.size w wr)
def KRel2 (w : World) (y : Value) (wr : World) : Prop := ∃ i : Nat, i ≤ 7 ∧ y = .int .i64 ((i : Int) - 2) ∧ Below w.heap.size w wr
def KRel3 (w : World) (y : Value) (wr : World) : Prop := ∃ i : Int, -1 ≤ i ∧ i ≤ 6 ∧ y = .int .i64 i ∧ Below w.heap.size w wr
set_option maxRecDepth 100000 in
set_option maxHeartbeats 3200000 in
theorem slots_known (w : World) : Calls Try.prog 3 #[] w fun e w' => e = .returned (.bool true) ∧ Below w.heap.size w w' := by
  have kc := fun (w : World) (C : Array Value) (n c : Nat) => Lib.run_convert_bytes_const (P := Try.prog) w 27 5 C n c Try.underlying27 Try.underlying5
  go_enter Try.func3, Try.ntmps3
  go_wp2
  go_loopw [2, 1] (fun i v wr => KRel1 w i v wr) (fun i _ _ => 2 - (intOf i).toNat)
  case atStart => exact .inl ⟨rfl, rfl, rfl⟩
  case round =>
    rcases hrel with ⟨rfl, rfl, rfl⟩ | ⟨rfl, s, rfl, hb, c0⟩ | ⟨rfl, hb⟩
    · go_wp2_with fail
      refine (slots_save_nil _ _).mono ?_
      rintro e w1 ⟨rfl, rfl⟩
      go_wp2_with fail
      refine (slots_turn_nil _).mono ?_
      rintro e w1 ⟨rfl, rfl⟩
      go_wp2_with fail
      go_roundw
      case rel => exact .inr (.inl ⟨rfl, _, rfl, (Below.refl _ _).alloc (Nat.le_refl _) _, by have := (Blk.new wr 31 #[.pointer none, .int .i64 0, .int .i64 0, .int .i64 0, .slice none 0 0]).cell 0; exact this⟩)
      case measure => simp [intOf]
    · go_wp2_with fail
      refine (slots_save_zero _ _ s c0).mono ?_
      rintro e w1 ⟨rfl, rfl⟩
      go_wp2_with fail
      refine (slots_turn_zero _ s c0).mono ?_
      rintro e w1 ⟨rfl, rfl⟩
      go_wp2_with fail
      go_roundw
      case rel => exact .inr (.inr ⟨rfl, hb.alloc hb.size _⟩)
      case measure => simp [intOf]
    · have hp : Plain wr (fun _ => 0) := fun _ _ => rfl
      have HW := Lib.hid hb
      clear hb
      go_wp2_with fail
      refine (sector_new hp 2 (by omega) (by omega) 1).mono ?_
      rintro e w1 ⟨db, rfl, hdb, c1, hx1, hd1⟩
      have H1 := Lib.hid (And.intro hx1 hd1)
      clear hx1 hd1
      go_wp2_with fail
      refine (sector_crash H1.out.2 H1.out.1.plain (ks := []) 0 (Sl.nil _ _) (Nat.le_refl _) (fun h => absurd h (by simp))).mono ?_
      rintro e w2 ⟨rfl, hx2, hd2⟩
      have H2 : Hid (Ext (fun q => q = 1) wr (fun _ => 0) w2 c1 ∧ DevP w2 c1 1 db ((Dev.new 2).crash []).1) := Lib.hid (And.intro ((H1.out.1.mono (fun _ h => h.elim)).trans hx2) hd2)
      clear hx2 hd2 H1
      go_wp2_with fail
      refine (sector_nil_open w2).mono ?_
      rintro e w3 ⟨rfl, hb3⟩
      have H3 : Hid (Ext (fun q => q = 1) wr (fun _ => 0) w3 c1 ∧ DevP w3 c1 1 db ((Dev.new 2).crash []).1) := Lib.hid (And.intro (H2.out.1.below hb3) (H2.out.2.ext (C := fun _ => False) (.of_below hb3 H2.out.1.plain) (fun h => h)))
      clear hb3 H2
      go_wp2_with fail
      have hz := (Blk.new w3 41 #[.slice none 0 0, .map none, .int .i64 0, .slice none 0 0, .int .i64 0, .int .i64 0, .bool false]).cell 1
      have hba := (Below.refl w3.heap.size w3).alloc (Nat.le_refl _) (.cells #[.slice none 0 0, .map none, .int .i64 0, .slice none 0 0, .int .i64 0, .int .i64 0, .bool false] 41)
      refine (sector_zero_open _ w3.heap.size (by simp) hz).mono ?_
      rintro e w4 ⟨rfl, hb4⟩
      have hb4' := Below.trans' hba hb4 hba.size
      have H4 : Hid (Ext (fun q => q = 1) wr (fun _ => 0) w4 c1 ∧ DevP w4 c1 1 db ((Dev.new 2).crash []).1) := Lib.hid (And.intro (H3.out.1.below hb4') (H3.out.2.ext (C := fun _ => False) (.of_below hb4' H3.out.1.plain) (fun h => h)))
      clear hb4 hb4' hba hz H3
      go_wp2_with fail
      refine (slots_open H4.out.2 H4.out.1.plain 0 (by omega)).mono ?_
      rw [kn6]
      rintro e w5 ⟨hb5, rfl⟩
      have H5 : Hid (Below w.heap.size w w5) := Lib.hid (Below.trans' HW.out (Below.trans' (Below.of_ext H4.out.1 (by omega)) hb5 H4.out.1.size) HW.out.size)
      clear hb5 H4 HW
      go_wp2_with fail
      obtain ⟨wo, rfl⟩ : ∃ wo : World, wo = wr := ⟨_, rfl⟩
      go_loopw [14] (fun y wr => KRel2 w y wr) (fun y _ => (5 - intOf y).toNat)
      case atStart => exact ⟨0, by omega, rfl, H5.out⟩
      case round =>
        obtain ⟨i, hi, rfl, hb⟩ := hrel
        have HB := Lib.hid hb
        clear hb
        by_cases hlt : i < 7
        · have hb5 : decide ((i : Int) - 2 < 5) = true := by simp; omega
          go_wp2_with fail
          clear hb5
          obtain ⟨wo2, rfl⟩ : ∃ wo : World, wo = wr := ⟨_, rfl⟩
          go_loopw [15] (fun y wr => KRel3 w y wr) (fun y _ => (6 - intOf y).toNat)
          case atStart => exact ⟨-1, by omega, by omega, rfl, HB.out⟩
          case round =>
            obtain ⟨k, hk, hk2, rfl, hb⟩ := hrel
            have HBK := Lib.hid hb
            clear hb
            by_cases hlk : k < 6
            · obtain ⟨m, hm⟩ : ∃ m : Nat, (m : Int) = 98 + max k 0 := ⟨(98 + max k 0).toNat, by omega⟩
              have hm1 : m ≤ 103 := by omega
              have hmk : ∀ w, (Instr.makeSlice 27 (.int .i64 (98 + max k 0)) (.int .i64 (98 + max k 0))).run Try.prog w = .ok (.slice (some ⟨w.heap.size, 0, none⟩) m m) (w.alloc (.cells (bytesV (zeros m)).toArray 5)) := fun w => by
                obtain ⟨i0, hi, hz0, hz1, hz2⟩ := info_parts infoU8
                have := run_make (P := Try.prog) w 27 5 i0 _ Try.underlying27 hi hz0 .i64 .i64 (98 + max k 0) (98 + max k 0) (by omega) (by omega) (by rw [hz2]; omega) (by omega)
                rw [hz1, ← hm] at this
                simp only [Int.toNat_natCast] at this
                rw [made_bytes, hm] at this; exact this
              have HM := Lib.hid hm
              have kc2 := fun (w : World) (C : Array Value) (n c g : Nat) (hg : g = w.heap.size) => Go.Joins.run_convert_bytes_const_at (P := Try.prog) w 27 5 C n c g hg Try.underlying27 Try.underlying5
              clear hm
              go_upto_region 22 with fail
              have HS : Hid (Calls Try.prog 9 #[.int .i64 ((i : Int) - 2), .slice (some ⟨wr.heap.size + 1 + 1 + 1 + 1 + 1 + 1 + 1 + 1 + 1 + 1, 0, none⟩) 13 13] ((deedObjs wr.heap.size k m).foldl World.alloc wr) fun e w' => e = .returned (.bool true) ∧ Below ((deedObjs wr.heap.size k m).foldl World.alloc wr).heap.size ((deedObjs wr.heap.size k m).foldl World.alloc wr) w') :=
                Lib.hid (slots_do (deeds_tower wr k m ⟨hk, by omega⟩ hm1) (by simp [deedL]) 13 (first := (i : Int) - 2) (by omega))
              have HT := Lib.hid (tower_below (deedObjs wr.heap.size k m) wr)
              go_wp2_with fail
              refine HS.out.mono ?_
              rintro e w6 ⟨rfl, hb6⟩
              have H6 := Lib.hid (Below.trans' HBK.out (Below.trans' HT.out hb6 HT.out.size) HBK.out.size)
              clear hb6 HS HT
              go_wp2
              go_roundw
              case rel =>
                exact ⟨k + 1, by omega, by omega, rfl, H6.out⟩
              case measure => simp [intOf]; omega
            · obtain rfl : k = 6 := by omega
              go_wp2
              go_roundw
              case rel => exact ⟨i + 1, by omega, by go_num, HBK.out⟩
              case measure => simp [intOf]; omega
        · obtain rfl : i = 7 := by omega
          have hp : Plain wr (fun _ => 0) := fun _ _ => rfl
          go_wp2_with fail
          refine (sector_new hp 2 (by omega) (by omega) 1).mono ?_
          rintro e w1 ⟨db, rfl, hdb, c1, hx1, hd1⟩
          have HO := Lib.hid (slots_open hd1 hx1.plain 0 (by omega))
          have H1 := Lib.hid (And.intro hx1 hd1)
          clear hx1 hd1
          go_wp2_with fail
          refine HO.out.mono ?_
          rw [show Dev.new 2 = kD0 from rfl, kn1]
          rintro e w2 ⟨hb2, s, G, cp, rfl, hs2, hsw, -, -⟩
          have H2 : Hid (AS wr db s 0 kD0 0 0 w2 (Col.set c1 s 2)) := Lib.hid (by
            have hx := (Ext.of_below (C := fun _ => False) hb2 H1.out.1.plain).paint 2 hsw (slotsB_lt hs2)
            exact ⟨(H1.out.1.trans hx).mono (fun _ h => h.elim), H1.out.2.ext hx (fun h => h), hs2, Col.set_same ..⟩)
          generalize Col.set c1 s 2 = c2 at *
          clear hb2 hs2 hsw HO H1 hdb
          go_wp2_with fail
          have h97 := sl_row w2 5 (1, 2) (bytesV [113])
          have H3 := Lib.hid (And.intro (H2.out.below ((Below.refl _ _).alloc (Nat.le_refl _) (.cells (bytesV [113]).toArray 5 (1, 2)))) (And.intro h97 (SlCol.row H2.out.hx.plain 1)))
          refine (slots_save H3.out.1.hd H3.out.1.hs H3.out.1.cs (by omega) (by omega) (by omega) H3.out.1.hx.plain (by omega) (by omega) (by omega) 1 H3.out.2.1 H3.out.2.2 (by simp)).mono ?_
          rw [show (saveS kD0 0 0 0 [113]) = ((kD1, 1, 0), 0) from Prod.ext (Prod.ext rfl kn2.1) kn2.2]
          rintro e w4 ⟨rfl, hx4, hd4, hs4⟩
          have H4 := Lib.hid (H3.out.1.save hx4 hd4 hs4)
          clear hx4 hd4 hs4 h97 H3 H2
          go_wp2_with fail
          refine (sector_read H4.out.hd 0).mono ?_
          rintro e w8 ⟨v, rfl, hown, hb8⟩
          have h30 := kn3.1
          have h31 := kn3.2
          have h4 := kn4
          have h5 : openS (kD1.write 1 (kD1.read 0).1).1 0 = (none, 110) := kn5
          generalize kD1.read 0 = rd at *
          obtain ⟨kx, ke⟩ := rd
          obtain rfl : ke = 0 := h30
          obtain ⟨g, cap, rfl, hG, -, -, hGb⟩ := slice_of_own hown
          simp only at h31 h4 h5 hG
          have H8 := Lib.hid (And.intro (H4.out.below hb8) (And.intro hG (show SlCol c2 0 g kx.length from fun _ ad ha => H4.out.hx.plain _ (hGb ad ha))))
          clear hown hb8 hG hGb H4
          have hwr := sector_write H8.out.1.hd H8.out.1.hx.plain (by omega) 1 cap H8.out.2.1 (fun h0 ad ha => by rw [H8.out.2.2 h0 ad ha]; omega)
          have HWR := Lib.hid hwr
          clear hwr
          have HK5 := Lib.hid (And.intro h31 (And.intro h4 h5))
          clear h31 h4 h5
          go_wp2_with fail
          refine HWR.out.mono ?_
          rintro e w10 ⟨rfl, hx10, hd10⟩
          rw [HK5.out.2.1]
          have H10 := Lib.hid (H8.out.1.dev hx10 hd10)
          clear hx10 hd10 H8 HWR
          go_wp2_with fail
          refine (slots_open H10.out.hd H10.out.hx.plain 0 (by omega)).mono ?_
          rw [HK5.out.2.2]
          rintro e w11 ⟨hb11, rfl⟩
          have H11 := Lib.hid (H10.out.below hb11)
          clear hb11 H10
          go_wp2_with fail
          refine (awake w11).mono ?_
          rintro e w12 ⟨rfl, hb12⟩
          have H12 := Lib.hid (Below.trans' HB.out (H11.out.below hb12).fin HB.out.size)
          clear hb12 H11
          go_wp2
          go_ret
          exact ⟨rfl, H12.out⟩
end Go.Proofs.Ytfcialmdediojaa
