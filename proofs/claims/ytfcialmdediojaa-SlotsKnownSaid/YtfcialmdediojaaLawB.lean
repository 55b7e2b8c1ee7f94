/-
  The law's awake.
-/
import Derived.Test.YtfcialmdediojaaLaw
namespace Go.Proofs.Ytfcialmdediojaa
set_option linter.unusedVariables false
set_option linter.unusedSimpArgs false
open Go.RowKit
theorem Below.of_ext {C : Nat → Prop} {w w' : World} {col' : Col} (h : Ext C w (fun _ => 0) w' col') (hc : ¬ C 0) : Below w.heap.size w w' :=
  ⟨h.os, h.tape, h.output, h.size, fun b hb => h.block b hb hc⟩
theorem sl_row (w : World) (t : TypeId) (mk : Nat × Nat) (cs : List Value) : Sl (w.alloc (.cells cs.toArray t mk)) (some ⟨w.heap.size, 0, none⟩) cs := fun _ =>
  ⟨w.heap.size, 0, rfl, by simp, fun j hj => by
    rw [cell_of_row _ w.heap.size (0 + j) cs.toArray t mk (heap_alloc_new w _)]; simp [List.getElem?_eq_getElem hj]⟩
theorem SlCol.row {w : World} {col : Col} (hp : Plain w col) (n : Nat) : SlCol col 0 (some ⟨w.heap.size, 0, none⟩) n := SlCol.new hp (Nat.le_refl _) n
theorem slotsB_ext {C : Nat → Prop} {w w' : World} {col col' : Col} {s db : Nat} {first : Int} {t q : Nat} (h : SlotsB w s db first t q) (he : Ext C w col w' col') (hc : ¬ C (col s)) : SlotsB w' s db first t q := by
  obtain ⟨A, n, k, hb⟩ := h; exact ⟨A, n, k, hb.ext he hc⟩
theorem slotsB_lt {w : World} {s db : Nat} {first : Int} {t q : Nat} (h : SlotsB w s db first t q) : s < w.heap.size := by obtain ⟨A, n, k, hb⟩ := h; exact hb.lt
/-- a device, slots open on it, of a call's own -/
structure AS (w : World) (db s : Nat) (first : Int) (d : Dev) (t q : Nat) (W : World) (cW : Col) : Prop where
  hx : Ext (fun q => q = 1 ∨ q = 2) w (fun _ => 0) W cW
  hd : DevP W cW 1 db d
  hs : SlotsB W s db first t q
  cs : cW s = 2
section
variable {w W W' : World} {cW cW' : Col} {db s : Nat} {first : Int} {d d' : Dev} {t q t' q' : Nat}
theorem AS.ext (h : AS w db s first d t q W cW) (he : Ext (fun _ => False) W cW W' cW') : AS w db s first d t q W' cW' :=
  ⟨h.hx.trans (he.mono fun _ h => h.elim), h.hd.ext he (fun h => h), slotsB_ext h.hs he (fun h => h), (he.same _ (slotsB_lt h.hs)).trans h.cs⟩
theorem AS.below (h : AS w db s first d t q W cW) (hb : Below W.heap.size W W') : AS w db s first d t q W' cW := h.ext (.of_below hb h.hx.plain)
theorem AS.save (h : AS w db s first d t q W cW) (he : Ext (fun q => q = 1 ∨ q = 2) W cW W' cW') (hd : DevP W' cW' 1 db d') (hs : SlotsB W' s db first t' q') : AS w db s first d' t' q' W' cW' :=
  ⟨h.hx.trans he, hd, hs, (he.same _ (slotsB_lt h.hs)).trans h.cs⟩
theorem AS.dev (h : AS w db s first d t q W cW) (he : Ext (· = 1) W cW W' cW') (hd : DevP W' cW' 1 db d') : AS w db s first d' t q W' cW' :=
  ⟨h.hx.trans (he.mono fun _ h => .inl h), hd, slotsB_ext h.hs he (by rw [h.cs]; omega), (he.same _ (slotsB_lt h.hs)).trans h.cs⟩
theorem AS.fin (h : AS w db s first d t q W cW) : Below w.heap.size w W := Below.of_ext h.hx (by omega)
end
theorem own_row {w : World} {base n : Nat} {e : TypeId} {v : Value} {xs : List Value} (h : w.ownsRow base e 1 v n xs) (hn : 0 < n) : ∃ g cap cur, v = .slice (some ⟨g, 0, none⟩) n cap ∧ base ≤ g ∧ Blk w g e cur ∧ ∀ j, j < xs.length → cur[j]? = xs[j]? := by
  rcases h.2 with ⟨rfl, rfl⟩ | ⟨g, cap, cur, rfl, hb, hblk, _, _, _, hc⟩
  · have := h.1; simp at this; omega
  · refine ⟨g, cap, cur, rfl, hb, hblk, fun j hj => ?_⟩
    have h1 := h.1
    rw [← hc, List.getElem?_take_of_lt (by omega)]
    simp
set_option maxRecDepth 100000 in
set_option maxHeartbeats 1600000 in
theorem awake (w : World) : Calls Try.prog 12 #[] w fun e w' => e = .returned (.bool true) ∧ Below w.heap.size w w' := by
  have hp : Plain w (fun _ => 0) := fun _ _ => rfl
  have kc := fun (w : World) (C : Array Value) (n c : Nat) => Lib.run_convert_bytes_const (P := Try.prog) w 27 5 C n c Try.underlying27 Try.underlying5
  go_enter Try.func12, Try.ntmps12
  go_wp2_with fail
  refine (sector_new hp 3 (by omega) (by omega) 1).mono ?_
  rintro e w1 ⟨db, rfl, hdb, c1, hx1, hd1⟩
  have HO := Lib.hid (slots_open hd1 hx1.plain 1 (by omega))
  have H1 := Lib.hid (And.intro hx1 hd1)
  clear hx1 hd1
  go_wp2_with fail
  refine HO.out.mono ?_
  rw [show Dev.new 3 = aD0 from rfl, aw1]
  rintro e w2 ⟨hb2, s, G, cp, rfl, hs2, hsw, -, -⟩
  have H2 : Hid (AS w db s 1 aD0 0 0 w2 (Col.set c1 s 2)) := Lib.hid (by
    have hx := (Ext.of_below (C := fun _ => False) hb2 H1.out.1.plain).paint 2 hsw (slotsB_lt hs2)
    exact ⟨(H1.out.1.trans hx).mono (fun _ h => h.elim), H1.out.2.ext hx (fun h => h), hs2, Col.set_same ..⟩)
  generalize Col.set c1 s 2 = c2 at *
  clear hb2 hs2 hsw HO H1 hdb
  go_wp2_with fail
  refine (slots_turn H2.out.hs).mono ?_
  rintro e w3 ⟨rfl, rfl⟩
  go_wp2_with fail
  have h97 := sl_row w2 5 (1, 2) (bytesV [97])
  have H3 := Lib.hid (And.intro (H2.out.below ((Below.refl _ _).alloc (Nat.le_refl _) (.cells (bytesV [97]).toArray 5 (1, 2)))) (And.intro h97 (SlCol.row H2.out.hx.plain 1)))
  refine (slots_save H3.out.1.hd H3.out.1.hs H3.out.1.cs (by omega) (by omega) (by omega) H3.out.1.hx.plain (by omega) (by omega) (by omega) 1 H3.out.2.1 H3.out.2.2 (by simp)).mono ?_
  rw [show (saveS aD0 0 0 1 [97]) = ((aD1, 1, 0), 0) from Prod.ext (Prod.ext rfl aw2.1) aw2.2]
  rintro e w4 ⟨rfl, hx4, hd4, hs4⟩
  have H4 := Lib.hid (H3.out.1.save hx4 hd4 hs4)
  clear hx4 hd4 hs4 h97 H3 H2
  go_wp2_with fail
  have h98 := sl_row w4 5 (1, 2) (bytesV [98])
  have H5 := Lib.hid (And.intro (H4.out.below ((Below.refl _ _).alloc (Nat.le_refl _) (.cells (bytesV [98]).toArray 5 (1, 2)))) (And.intro h98 (SlCol.row H4.out.hx.plain 1)))
  refine (slots_save H5.out.1.hd H5.out.1.hs H5.out.1.cs (by omega) (by omega) (by omega) H5.out.1.hx.plain (by omega) (by omega) (by omega) 1 H5.out.2.1 H5.out.2.2 (by simp)).mono ?_
  rw [show (saveS aD1 1 0 1 [98]) = ((aD2, 2, 1), 0) from Prod.ext (Prod.ext rfl aw3.1) aw3.2]
  rintro e w6 ⟨rfl, hx6, hd6, hs6⟩
  have H6 := Lib.hid (H5.out.1.save hx6 hd6 hs6)
  clear hx6 hd6 hs6 h98 H5 H4
  go_wp2_with fail
  refine (law_opens (t := 2) (q := 1) (x := 98) H6.out.hd H6.out.hx.plain 1 (by omega) aw4).mono ?_
  rintro e w7 ⟨rfl, hb7⟩
  have H7 := Lib.hid (H6.out.below hb7)
  clear hb7 H6
  go_wp2_with fail
  refine (sector_read H7.out.hd 2).mono ?_
  rintro e w8 ⟨v, rfl, hown, hb8⟩
  have hrd : aD2.read 2 = (aX, 0) := Prod.ext rfl aw5.1
  rw [hrd] at hown ⊢
  rw [aw5.2] at hown
  obtain ⟨g, cap, cur, rfl, hgb, hblk, hcells⟩ := own_row hown (by omega)
  rw [bytesV_len, aw5.2] at hcells
  have hblk' : Blk w8 g 5 cur := hblk
  have q50 : w8.cell? ⟨g, 50, none⟩ = some (.int .u8 0) := by
    rw [hblk'.cell 50, hcells 50 (by decide)]
    have : (bytesV aX)[50]? = some (byteV (aX.getD 50 0)) := by
      simp only [bytesV, List.getElem?_map, List.getD_eq_getElem?_getD, List.getElem?_eq_getElem (show 50 < aX.length by rw [aw5.2]; omega)]
      rfl
    rw [this, aw9]; rfl
  have z50 := hblk'.frozen 50
  have hb9 : Below w7.heap.size w7 (w8.setCell ⟨g, 50, none⟩ (.int .u8 4)) := hb8.setCell (p := ⟨g, 50, none⟩) hgb _
  have hs9 : Sl (w8.setCell ⟨g, 50, none⟩ (.int .u8 4)) (some ⟨g, 0, none⟩) (bytesV aY) := by
    refine Sl.of_blk (hblk'.set_ 50 (.int .u8 4)) fun j hj => ?_
    have hj' : j < 128 := by rw [bytesV_len, aw6.2] at hj; exact hj
    have hx : cur[j]? = (bytesV aX)[j]? := hcells j hj'
    rw [Nat.zero_add, Array.getElem?_setIfInBounds]
    unfold aY bytesV
    rw [List.map_set, List.getElem?_set]
    have hz : 50 < cur.size := by
      have h5 := hcells 50 (by decide)
      rcases Nat.lt_or_ge 50 cur.size with h | h
      · exact h
      · rw [Array.getElem?_eq_none h, List.getElem?_eq_getElem (show 50 < (bytesV aX).length by rw [bytesV_len, aw5.2]; omega)] at h5; cases h5
    have hz2 : 50 < (aX.map byteV).length := by rw [List.length_map, aw5.2]; omega
    by_cases h50 : 50 = j
    · rw [if_pos h50, if_pos h50, if_pos (h50 ▸ hz), if_pos hz2, aw9]; rfl
    · rw [if_neg h50, if_neg h50, hx]; rfl
  have H9 := Lib.hid (And.intro (H7.out.below hb9) (And.intro hs9 (H7.out.hx.plain g hgb)))
  clear hown hb8 hblk hcells hgb hblk' H7 hrd hb9 hs9
  have hx4 : bits BinOp.xor IntKind.u8 0 4 = 4 := by decide
  go_upto_region 9 with fail
  clear hx4
  generalize w8.setCell ⟨g, 50, none⟩ (.int .u8 4) = w9 at *
  have hwr := sector_write H9.out.1.hd H9.out.1.hx.plain (by omega) 2 cap H9.out.2.1 (fun _ ad ha => by injection ha with ha; subst ha; rw [H9.out.2.2]; omega)
  rw [aw6.2] at hwr
  have HWR := Lib.hid hwr
  clear hwr q50 z50
  go_wp2_with fail
  refine HWR.out.mono ?_
  rw [show aD2.write 2 aY = (aD3, 0) from Prod.ext rfl aw6.1]
  rintro e w10 ⟨rfl, hx10, hd10⟩
  have H10 := Lib.hid (H9.out.1.dev hx10 hd10)
  clear hx10 hd10 H9 HWR
  go_wp2_with fail
  refine (slots_open H10.out.hd H10.out.hx.plain 1 (by omega)).mono ?_
  rw [aw7]
  rintro e w11 ⟨hb11, rfl⟩
  have H11 := Lib.hid (H10.out.below hb11)
  clear hb11 H10
  go_wp2_with fail
  refine (slots_open H11.out.hd H11.out.hx.plain 2 (by omega)).mono ?_
  rw [aw8]
  rintro e w12 ⟨hb12, rfl⟩
  have H12 := Lib.hid (H11.out.below hb12)
  clear hb12 H11
  have hmk : ∀ w, (Instr.makeSlice 27 (.int .i64 101) (.int .i64 101)).run Try.prog w = .ok (.slice (some ⟨w.heap.size, 0, none⟩) 101 101) (w.alloc (.cells (bytesV (zeros 101)).toArray 5)) := fun _ => by kernel_rfl
  go_wp2_with fail
  have h101 := sl_row w12 5 (0, 0) (bytesV (zeros 101))
  have H13 := Lib.hid (And.intro (H12.out.below ((Below.refl _ _).alloc (Nat.le_refl _) (.cells (bytesV (zeros 101)).toArray 5))) (And.intro h101 (SlCol.row H12.out.hx.plain 101)))
  clear h101 H12
  generalize w12.alloc (.cells (bytesV (zeros 101)).toArray 5) = w13 at *
  refine (slots_save H13.out.1.hd H13.out.1.hs H13.out.1.cs (by omega) (by omega) (by omega) H13.out.1.hx.plain (by omega) (by omega) (by omega) 101 H13.out.2.1 H13.out.2.2 (by simp [zeros])).mono ?_
  rw [show (saveS aD3 2 1 1 (zeros 101)) = ((aD3, 2, 1), 2) from by unfold saveS; rw [if_pos (by simp [zeros])]]
  rintro e w14 ⟨rfl, hx14, hd14, hs14⟩
  have H14 := Lib.hid (H13.out.1.save hx14 hd14 hs14)
  clear hx14 hd14 hs14 H13
  go_wp2
  go_ret
  exact ⟨rfl, H14.out.fin⟩
end Go.Proofs.Ytfcialmdediojaa
