/-
  What slots are, in plain Lean; a slot's sector, written by the program.
-/
import Derived.Test.YtfcialmdediojaaRefTally
import Derived.Test.YtfcialmdediojaaSecH
import Derived.Laws.CopyOwn
import Derived.BigQuiet
import Derived.BigRegion
import Derived.Deep.RegionLaw
namespace Go.Proofs.Ytfcialmdediojaa
set_option linter.unusedVariables false
set_option linter.unusedSimpArgs false
open Go.RowKit
def be8 (t : Nat) : List UInt8 := (List.range 8).map fun i => UInt8.ofNat (t / 256 ^ (7 - i))
def slotBody (t : Nat) (x : List UInt8) : List UInt8 := be8 t ++ (UInt8.ofNat x.length :: (x ++ zeros (115 - x.length)))
def slotB (t : Nat) (x : List UInt8) : List UInt8 := slotBody t x ++ leRow (crcOf (slotBody t x))
theorem be8_len (t : Nat) : (be8 t).length = 8 := by simp [be8]
theorem slotBody_len (t : Nat) {x : List UInt8} (h : x.length ≤ 115) : (slotBody t x).length = 124 := by
  unfold slotBody
  simp [be8_len, zeros]; omega
theorem leRow_len (n : Nat) : (leRow n).length = 4 := by simp [leRow]
theorem slotB_len (t : Nat) {x : List UInt8} (h : x.length ≤ 115) : (slotB t x).length = 128 := by
  unfold slotB
  rw [List.length_append, slotBody_len t h, leRow_len]
/-- the buffer, as it fills -/
def bufK (t k : Nat) : List UInt8 := (be8 t).take k ++ zeros (128 - k)
def bufN (t : Nat) (x : List UInt8) : List UInt8 := be8 t ++ (UInt8.ofNat x.length :: zeros 119)
def bufX (t : Nat) (x : List UInt8) : List UInt8 := be8 t ++ (UInt8.ofNat x.length :: (x ++ zeros (119 - x.length)))
theorem zeros_succ (n : Nat) : zeros (n + 1) = 0 :: zeros n := rfl
theorem zeros_add (n m : Nat) : zeros (n + m) = zeros n ++ zeros m := by simp [zeros, List.replicate_append_replicate]
theorem zeros_len (n : Nat) : (zeros n).length = n := by simp [zeros]
theorem bufK_len (t : Nat) {k : Nat} (h : k ≤ 8) : (bufK t k).length = 128 := by
  unfold bufK
  rw [List.length_append, List.length_take, be8_len, zeros_len]; omega
theorem bytesV_append (a b : List UInt8) : bytesV (a ++ b) = bytesV a ++ bytesV b := by simp [bytesV]
theorem bytesV_cons (a : UInt8) (b : List UInt8) : bytesV (a :: b) = byteV a :: bytesV b := rfl
theorem setV (L : List UInt8) (i : Nat) (c : UInt8) : (bytesV L).toArray.setIfInBounds i (byteV c) = (bytesV (L.set i c)).toArray := by
  simp [bytesV, List.map_set]
theorem bufK_set (t : Nat) {k : Nat} (h : k < 8) : (bufK t k).set k (UInt8.ofNat (t / 256 ^ (7 - k))) = bufK t (k + 1) := by
  unfold bufK
  have hl : ((be8 t).take k).length = k := by rw [List.length_take, be8_len]; omega
  have hg : (be8 t)[k]'(by rw [be8_len]; exact h) = UInt8.ofNat (t / 256 ^ (7 - k)) := by simp [be8]
  rw [List.set_append_right _ _ (by omega), hl, Nat.sub_self, List.take_succ_eq_append_getElem (by rw [be8_len]; exact h), hg, show 128 - k = (128 - (k + 1)) + 1 from by omega, zeros_succ, List.set_cons_zero, List.append_assoc]
  rfl
theorem bufN_eq (t : Nat) (x : List UInt8) : (bufK t 8).set 8 (UInt8.ofNat x.length) = bufN t x := by
  unfold bufK bufN
  rw [List.take_of_length_le (by rw [be8_len]; omega), List.set_append_right _ _ (by rw [be8_len]; omega), be8_len, Nat.sub_self]
  rfl
theorem bufX_eq (t : Nat) {x : List UInt8} (h : x.length ≤ 119) : splice (bytesV (bufN t x)) 9 (bytesV x) = bytesV (bufX t x) := by
  unfold splice bufN bufX
  have e : bytesV (be8 t ++ UInt8.ofNat x.length :: zeros 119) = (bytesV (be8 t ++ [UInt8.ofNat x.length])) ++ bytesV (zeros 119) := by rw [← bytesV_append]; simp
  have hl : (bytesV (be8 t ++ [UInt8.ofNat x.length])).length = 9 := by rw [bytesV_len]; simp [be8_len]
  rw [e, List.take_append_of_le_length (by omega), List.take_of_length_le (by omega), List.drop_append, hl, List.drop_eq_nil_of_le (by omega), List.nil_append, bytesV_len,
    show 9 + x.length - 9 = x.length from by omega]
  have hz : (bytesV (zeros 119)).drop x.length = bytesV (zeros (119 - x.length)) := by
    have : zeros 119 = zeros x.length ++ zeros (119 - x.length) := by rw [← zeros_add]; congr 1; omega
    rw [this, bytesV_append, List.drop_append, List.drop_eq_nil_of_le (by rw [bytesV_len, zeros_len]; omega), bytesV_len, zeros_len, Nat.sub_self, List.nil_append]; rfl
  rw [hz, ← bytesV_append, ← bytesV_append]
  simp
theorem bufX_body (t : Nat) {x : List UInt8} (h : x.length ≤ 115) : bufX t x = slotBody t x ++ zeros 4 := by
  unfold bufX slotBody
  rw [show 119 - x.length = (115 - x.length) + 4 from by omega, zeros_add]; simp
theorem Below.trans' {B : Nat} {a w w' : World} (h : Below B a w) (k : Below w.heap.size w w') (hB : B ≤ w.heap.size := by exact h.size) : Below B a w' :=
  ⟨k.os.trans h.os, k.tape.trans h.tape, k.output.trans h.output, Nat.le_trans h.size k.size, fun q hq => (k.block q (by omega)).trans (h.block q hq)⟩
theorem infoU8one : (Try.prog.info? 5).map (·.size) = some 1 := by kernel_rfl
def WrRel (w w1 : World) (t : Nat) (x : Value) (wr : World) : Prop := ∃ k : Nat, k ≤ 8 ∧ x = .int .i64 (k : Int) ∧ Below w1.heap.size w1 wr ∧ Blk wr w1.heap.size 5 (bytesV (bufK t k)).toArray
set_option maxRecDepth 100000 in
set_option maxHeartbeats 1600000 in
theorem slot_written {w : World} {A : Option Addr} {x : List UInt8} (h : Sl w A (bytesV x)) (c t : Nat) (ht : t < 9223372036854775808) (hx : x.length ≤ 100) :
    Calls Try.prog 14 #[.agg #[.int .i64 (t : Int), .slice A x.length c]] w (NewRow w 5 (bytesV (slotB t x))) := by
  have hmk : ∀ w, (Instr.makeSlice 27 (.int .i64 124) (.int .i64 128)).run Try.prog w = .ok (.slice (some ⟨w.heap.size, 0, none⟩) 124 128) (w.alloc (.cells (bytesV (zeros 128)).toArray 5)) := fun _ => by kernel_rfl
  have H := Lib.hid h
  clear h
  have b0 := Blk.new w 29 #[.int .i64 (t : Int), .slice A x.length c]
  have hb0 : Below w.heap.size w (w.alloc (.cells #[.int .i64 (t : Int), .slice A x.length c] 29)) := (Below.refl _ _).alloc (Nat.le_refl _) _
  have HB0 := Lib.hid (And.intro b0 hb0)
  clear b0 hb0
  go_enter Try.func14, Try.ntmps14
  go_wp2_with fail
  have b1 := Blk.new (w.alloc (.cells #[.int .i64 (t : Int), .slice A x.length c] 29)) 5 (bytesV (zeros 128)).toArray
  have hb1 : Below w.heap.size w ((w.alloc (.cells #[.int .i64 (t : Int), .slice A x.length c] 29)).alloc (.cells (bytesV (zeros 128)).toArray 5)) := HB0.out.2.alloc (by simp) _
  have b01 := HB0.out.1.alloc (.cells (bytesV (zeros 128)).toArray 5)
  rw [World.size_alloc] at b1
  generalize (w.alloc (.cells #[.int .i64 (t : Int), .slice A x.length c] 29)).alloc (.cells (bytesV (zeros 128)).toArray 5) = w2 at *
  have k0 : w2.cell? ⟨w.heap.size, 0, none⟩ = some (.int .i64 (t : Int)) := b01.cell 0
  have k1 : w2.cell? ⟨w.heap.size, 1, none⟩ = some (.slice A x.length c) := b01.cell 1
  have HW2 := Lib.hid (And.intro b1 (And.intro hb1 b01))
  clear b1 hb1 b01 HB0
  go_quiet (fail)
  go_wp2
  go_loopw [4] (fun y wr => ∃ k : Nat, k ≤ 8 ∧ y = .int .i64 (k : Int) ∧ Below w.heap.size w wr ∧ Blk wr w.heap.size 29 #[.int .i64 (t : Int), .slice A x.length c] ∧ Blk wr (w.heap.size + 1) 5 (bytesV (bufK t k)).toArray) (fun y _ => 8 - (intOf y).toNat)
  case atStart => exact ⟨0, by omega, rfl, Below.drawn HW2.out.2.1 ⟨_, rfl⟩, HW2.out.2.2, HW2.out.1⟩
  case round =>
    obtain ⟨k, hk, rfl, hb, hbl0, hbl⟩ := hrel
    have HX := Lib.hid (And.intro hb (And.intro hbl0 hbl))
    clear hb hbl0 hbl
    by_cases hlt : k < 8
    · have c0 : wr.cell? ⟨w.heap.size + 1, k, none⟩ = some (.int .u8 0) := by
        rw [HX.out.2.2.cell]
        have hl : ((be8 t).take k).length = k := by rw [List.length_take, be8_len]; omega
        have : (bufK t k)[k]? = some 0 := by
          unfold bufK
          rw [List.getElem?_append_right (by omega), hl, Nat.sub_self, show 128 - k = (127 - k) + 1 from by omega, zeros_succ]; rfl
        simp [bytesV, this, byteV]
      have z0 := HX.out.2.2.frozen k
      have hv : ((t / 256 ^ (7 - k) : Nat) : Int) % 256 = ((UInt8.ofNat (t / 256 ^ (7 - k))).toNat : Int) := by simp
      have HS : Hid ((bytesV (bufK t k)).toArray.setIfInBounds k (byteV (UInt8.ofNat (t / 256 ^ (7 - k)))) = (bytesV (bufK t (k + 1))).toArray) := Lib.hid (by rw [setV, bufK_set t hlt])
      generalize UInt8.ofNat (t / 256 ^ (7 - k)) = cc at *
      have i0 : (0 : Int) ≤ (k : Int) := by omega
      have i1 : (k : Int) < 124 := by omega
      have HR : Hid (∃ k' : Nat, k' ≤ 8 ∧ Value.int .i64 ((k : Int) + 1) = .int .i64 (k' : Int) ∧ Below w.heap.size w (wr.setCell ⟨w.heap.size + 1, k, none⟩ (.int .u8 (cc.toNat : Int))) ∧ Blk (wr.setCell ⟨w.heap.size + 1, k, none⟩ (.int .u8 (cc.toNat : Int))) w.heap.size 29 #[.int .i64 (t : Int), .slice A x.length c] ∧ Blk (wr.setCell ⟨w.heap.size + 1, k, none⟩ (.int .u8 (cc.toNat : Int))) (w.heap.size + 1) 5 (bytesV (bufK t k')).toArray) :=
        Lib.hid ⟨k + 1, by omega, by simp, HX.out.1.setCell (p := ⟨w.heap.size + 1, k, none⟩) (by simp) _, HX.out.2.1.far (p := ⟨w.heap.size + 1, k, none⟩) (by simp) _, by have := HX.out.2.2.set_ k (byteV cc); rw [HS.out] at this; exact this⟩
      clear HS
      have hkk : k = 0 ∨ k = 1 ∨ k = 2 ∨ k = 3 ∨ k = 4 ∨ k = 5 ∨ k = 6 ∨ k = 7 := by omega
      rcases hkk with rfl | rfl | rfl | rfl | rfl | rfl | rfl | rfl
      · have hv2 : (t : Int) / 72057594037927936 = (cc.toNat : Int) := by omega
        clear hv
        go_wp2
        go_roundw
        case rel => exact HR.out
        case measure => simp [intOf]
      · have hv2 : ((t : Int) / 281474976710656) % 256 = (cc.toNat : Int) := by rw [← hv]; omega
        clear hv
        go_wp2
        go_roundw
        case rel => exact HR.out
        case measure => simp [intOf]
      · have hv2 : ((t : Int) / 1099511627776) % 256 = (cc.toNat : Int) := by rw [← hv]; omega
        clear hv
        go_wp2
        go_roundw
        case rel => exact HR.out
        case measure => simp [intOf]
      · have hv2 : ((t : Int) / 4294967296) % 256 = (cc.toNat : Int) := by rw [← hv]; omega
        clear hv
        go_wp2
        go_roundw
        case rel => exact HR.out
        case measure => simp [intOf]
      · have hv2 : ((t : Int) / 16777216) % 256 = (cc.toNat : Int) := by rw [← hv]; omega
        clear hv
        go_wp2
        go_roundw
        case rel => exact HR.out
        case measure => simp [intOf]
      · have hv2 : ((t : Int) / 65536) % 256 = (cc.toNat : Int) := by rw [← hv]; omega
        clear hv
        go_wp2
        go_roundw
        case rel => exact HR.out
        case measure => simp [intOf]
      · have hv2 : ((t : Int) / 256) % 256 = (cc.toNat : Int) := by rw [← hv]; omega
        clear hv
        go_wp2
        go_roundw
        case rel => exact HR.out
        case measure => simp [intOf]
      · have hv2 : ((t : Int)) % 256 = (cc.toNat : Int) := by rw [← hv]; omega
        clear hv
        go_wp2
        go_roundw
        case rel => exact HR.out
        case measure => simp [intOf]
    · obtain rfl : k = 8 := by omega
      have hbuf := HX.out.2.2
      have k0 : wr.cell? ⟨w.heap.size, 0, none⟩ = some (.int .i64 (t : Int)) := HX.out.2.1.cell 0
      have k1 : wr.cell? ⟨w.heap.size, 1, none⟩ = some (.slice A x.length c) := HX.out.2.1.cell 1
      have k8 : wr.cell? ⟨w.heap.size + 1, 8, none⟩ = some (.int .u8 0) := by
        rw [hbuf.cell]; simp [bufK, be8, bytesV, byteV, zeros]
      have z8 := hbuf.frozen 8
      have HBUF := Lib.hid hbuf
      clear hbuf
      have hlen8 : (x.length : Int) % 256 = (x.length : Int) := by omega
      have HN : Hid ((bytesV (bufK t 8)).toArray.setIfInBounds 8 (.int .u8 (x.length : Int)) = (bytesV (bufN t x)).toArray) := Lib.hid (by
        have := setV (bufK t 8) 8 (UInt8.ofNat x.length)
        rw [bufN_eq] at this
        rw [← this]
        unfold byteV
        congr 2
        simp; omega)
      go_wp2_with fail
      have b8 := HBUF.out.set_ 8 (.int .u8 (x.length : Int))
      rw [HN.out] at b8
      have bb8 : Below w.heap.size w (wr.setCell ⟨w.heap.size + 1, 8, none⟩ (.int .u8 (x.length : Int))) := HX.out.1.setCell (p := ⟨w.heap.size + 1, 8, none⟩) (by simp) _
      have s8 := HX.out.2.1.far (p := ⟨w.heap.size + 1, 8, none⟩) (by simp) (.int .u8 (x.length : Int))
      have p0 : (wr.setCell ⟨w.heap.size + 1, 8, none⟩ (.int .u8 (x.length : Int))).cell? ⟨w.heap.size, 0, none⟩ = some (.int .i64 (t : Int)) := s8.cell 0
      have p1 : (wr.setCell ⟨w.heap.size + 1, 8, none⟩ (.int .u8 (x.length : Int))).cell? ⟨w.heap.size, 1, none⟩ = some (.slice A x.length c) := s8.cell 1
      clear k0 k1 k8 z8 HX HBUF HN
      generalize wr.setCell ⟨w.heap.size + 1, 8, none⟩ (.int .u8 (x.length : Int)) = w4 at *
      have H4 := Lib.hid (And.intro b8 (And.intro bb8 s8))
      clear b8 bb8 s8
      have HSL : Hid (Sl w4 A (bytesV x)) := Lib.hid (H.out.below H4.out.2.1 (Nat.le_refl _))
      have HNW : Hid (0 < (bytesV x).length → (some ⟨w.heap.size + 1, 9, none⟩ : Option Addr) = some ⟨w.heap.size + 1, 9, none⟩ ∧ ∃ ad, A = some ad ∧ ∀ j v, (bytesV x)[j]? = some v → w4.drew.cell? (ad.add j) = some v) := Lib.hid fun hn => by
        obtain ⟨b', o', e', _, _⟩ := HSL.out hn
        exact ⟨rfl, _, e', HSL.out.news e'⟩
      go_region_law (refine step_copy_splice rfl (.tmp 30) (.tmp 32) 27 27 rfl 5 Try.underlying27 infoU8one (some ⟨w.heap.size + 1, 9, none⟩) A 115 119 x.length c (by simp [Act.eval, Act.put]) (by simp [Act.eval, Act.put]) (w.heap.size + 1) 9 (bytesV (bufN t x)) 5 H4.out.1 (bytesV x) (by rw [bytesV_len]; exact (Nat.min_eq_left (by omega)).symm) HNW.out (by rw [bytesV_len, bytesV_len]; simp [bufN, be8_len, zeros]; omega) (oneCell_bytesV x) w.heap.size w (H4.out.2.1.drew) (by omega) ?_; intro w5 hg5 hb5)
      have hb5l : Blk w5 (w.heap.size + 1) 5 (bytesV (slotBody t x) ++ bytesV (zeros 4)).toArray := by
        have := hg5.out
        rw [bufX_eq t (by omega), bufX_body t (by omega), bytesV_append] at this; exact this
      have hbl : (slotBody t x).length = 124 := slotBody_len t (by omega)
      have hsl : Sl w5 (some ⟨w.heap.size + 1, 0, none⟩) (bytesV (slotBody t x)) := Sl.of_blk hb5l (fun j hj => by rw [Nat.zero_add, List.getElem?_toArray, List.getElem?_append_left hj])
      have hof := tally_of hsl 128 (by omega)
      rw [hbl] at hof
      have HOF := Lib.hid hof
      have H5 := Lib.hid (And.intro hb5l hb5)
      have HSB : Hid (slotBody t x ++ leRow (crcOf (slotBody t x)) = slotB t x) := Lib.hid rfl
      have hlt := crcOf_lt (slotBody t x)
      have HBL := Lib.hid hbl
      clear hb5l hb5 hg5 hsl hof hbl p0 p1 H4 HSL HNW
      generalize slotBody t x = body at *
      generalize crcOf body = n at *
      go_wp2_with fail
      refine HOF.out.mono ?_
      rintro e w6 ⟨rfl, hb6⟩
      have H6 := Lib.hid (And.intro (H5.out.1.below hb6 H5.out.1.lt) (Below.trans' H5.out.2 hb6 H5.out.2.size))
      clear hb6
      go_wp2_with fail
      refine (tally_row w6 n hlt).mono ?_
      rintro e w7 ⟨v, rfl, hown, hb7⟩
      obtain ⟨G, cp, rfl, hG, hcp, hGpos, hGbase⟩ := slice_of_own hown
      rw [bytesV_len, leRow_len] at *
      have H7 := Lib.hid (And.intro (H6.out.1.below hb7 H6.out.1.lt) (Below.trans' H6.out.2 hb7 H6.out.2.size))
      have HG := Lib.hid hG
      clear hG hown hb7
      obtain ⟨i0, hi, hz0, hz1, hz2⟩ := info_parts infoU8
      have HOW : Hid (w7.ownsRow w.heap.size 5 1 (.slice (some ⟨w.heap.size + 1, 0, none⟩) 124 128) 124 (bytesV body)) := Lib.hid
        ⟨by rw [bytesV_len, HBL.out], .inr ⟨w.heap.size + 1, 128, _, rfl, by omega, H7.out.1, by omega, by unfold maxLen; omega, by simp [bytesV, HBL.out, zeros], by
          rw [List.toList_toArray, List.take_append_of_le_length (by rw [bytesV_len, HBL.out]; omega), List.take_of_length_le (by rw [bytesV_len, HBL.out]; omega)]⟩⟩
      go_wp2_with (at_builtin; refine wpList_append_sl _ rfl _ _ _ rfl w.heap.size 5 i0 (.int .u8 0) 1 Try.underlying27 hi hz0 hz1 hz2 rfl (.slice (some ⟨w.heap.size + 1, 0, none⟩) 124 128) 124 (bytesV body) rfl HOW.out G 4 cp (bytesV (leRow n)) rfl (by rw [bytesV_len, leRow_len]) HG.out (oneCell_bytesV _) (by unfold maxLen; omega) (by omega) H7.out.2.size ?_; intro v' w8 hown8 hgrow8 hat8)
      go_ret
      refine ⟨_, rfl, ?_, ?_⟩
      · have e : (bytesV (body ++ leRow n)).length = 124 + 4 := by rw [bytesV_len, List.length_append, HBL.out, leRow_len]
        rw [← HSB.out, e, bytesV_append]
        exact hown8
      · exact H7.out.2.grown hgrow8 H7.out.2.size (fun k hk => by
          have : w.heap.size + 1 = k := by simpa [Value.ownBlock] using hk
          omega)
end Go.Proofs.Ytfcialmdediojaa
