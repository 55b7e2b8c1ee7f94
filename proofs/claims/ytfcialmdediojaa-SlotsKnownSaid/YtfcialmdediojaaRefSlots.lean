/-
  The reference's slots (muslinref11): a slot's sector.
-/
import Derived.Test.YtfcialmdediojaaSlotsD
import Derived.Test.YtfcialmdediojaaRefF
import Derived.Test.YtfcialmdediojaaRefE
namespace Go.Proofs.Ytfcialmdediojaa
set_option linter.unusedVariables false
set_option linter.unusedSimpArgs false
open Go.RowKit
def rbufK (t k : Nat) : List UInt8 := (be8 t).take k ++ zeros (124 - k)
def rbufN (t : Nat) (x : List UInt8) : List UInt8 := be8 t ++ (UInt8.ofNat x.length :: zeros 115)
theorem rbufK_set (t : Nat) {k : Nat} (h : k < 8) : (rbufK t k).set k (UInt8.ofNat (t / 256 ^ (7 - k))) = rbufK t (k + 1) := by
  unfold rbufK
  have hl : ((be8 t).take k).length = k := by rw [List.length_take, be8_len]; omega
  have hg : (be8 t)[k]'(by rw [be8_len]; exact h) = UInt8.ofNat (t / 256 ^ (7 - k)) := by simp [be8]
  rw [List.set_append_right _ _ (by omega), hl, Nat.sub_self, List.take_succ_eq_append_getElem (by rw [be8_len]; exact h), hg, show 124 - k = (124 - (k + 1)) + 1 from by omega, zeros_succ, List.set_cons_zero, List.append_assoc]
  rfl
theorem rbufN_eq (t : Nat) (x : List UInt8) : (rbufK t 8).set 8 (UInt8.ofNat x.length) = rbufN t x := by
  unfold rbufK rbufN
  rw [List.take_of_length_le (by rw [be8_len]; omega), List.set_append_right _ _ (by rw [be8_len]; omega), be8_len, Nat.sub_self]
  rfl
theorem rbufX_eq (t : Nat) {x : List UInt8} (h : x.length ≤ 115) : splice (bytesV (rbufN t x)) 9 (bytesV x) = bytesV (slotBody t x) := by
  unfold splice rbufN slotBody
  have e : bytesV (be8 t ++ UInt8.ofNat x.length :: zeros 115) = (bytesV (be8 t ++ [UInt8.ofNat x.length])) ++ bytesV (zeros 115) := by rw [← bytesV_append]; simp
  have hl : (bytesV (be8 t ++ [UInt8.ofNat x.length])).length = 9 := by rw [bytesV_len]; simp [be8_len]
  rw [e, List.take_append_of_le_length (by omega), List.take_of_length_le (by omega), List.drop_append, hl, List.drop_eq_nil_of_le (by omega), List.nil_append, bytesV_len,
    show 9 + x.length - 9 = x.length from by omega]
  have hz : (bytesV (zeros 115)).drop x.length = bytesV (zeros (115 - x.length)) := by
    have : zeros 115 = zeros x.length ++ zeros (115 - x.length) := by rw [← zeros_add]; congr 1; omega
    rw [this, bytesV_append, List.drop_append, List.drop_eq_nil_of_le (by rw [bytesV_len, zeros_len]; omega), bytesV_len, zeros_len, Nat.sub_self, List.nil_append]; rfl
  rw [hz, ← bytesV_append, ← bytesV_append]
  simp
set_option maxRecDepth 100000 in
set_option maxHeartbeats 1600000 in
theorem refslot_sector {w : World} {A : Option Addr} {x : List UInt8} (h : Sl w A (bytesV x)) (c t : Nat) (ht : t < 9223372036854775808) (hx : x.length ≤ 100) :
    Calls Try.prog 59 #[.int .i64 (t : Int), .slice A x.length c] w (NewRow w 5 (bytesV (slotB t x))) := by
  have hmk : ∀ w, (Instr.makeSlice 27 (.int .i64 124) (.int .i64 124)).run Try.prog w = .ok (.slice (some ⟨w.heap.size, 0, none⟩) 124 124) (w.alloc (.cells (bytesV (zeros 124)).toArray 5)) := fun _ => by kernel_rfl
  have H := Lib.hid h
  clear h
  go_enter Try.func59, Try.ntmps59
  go_wp2
  go_loopw [6] (fun y wr => ∃ k : Nat, k ≤ 8 ∧ y = .int .i64 (k : Int) ∧ Below w.heap.size w wr ∧ Blk wr w.heap.size 5 (bytesV (rbufK t k)).toArray) (fun y _ => 8 - (intOf y).toNat)
  case atStart => exact ⟨0, by omega, rfl, (Below.refl _ _).alloc (Nat.le_refl _) _, Blk.new w 5 _⟩
  case round =>
    obtain ⟨k, hk, rfl, hb, hbl⟩ := hrel
    have HX := Lib.hid (And.intro hb hbl)
    clear hb hbl
    by_cases hlt : k < 8
    · have c0 : wr.cell? ⟨w.heap.size, k, none⟩ = some (.int .u8 0) := by
        rw [HX.out.2.cell]
        have hl : ((be8 t).take k).length = k := by rw [List.length_take, be8_len]; omega
        have : (rbufK t k)[k]? = some 0 := by
          unfold rbufK
          rw [List.getElem?_append_right (by omega), hl, Nat.sub_self, show 124 - k = (123 - k) + 1 from by omega, zeros_succ]; rfl
        simp [bytesV, this, byteV]
      have z0 := HX.out.2.frozen k
      have hv : ((t / 256 ^ (7 - k) : Nat) : Int) % 256 = ((UInt8.ofNat (t / 256 ^ (7 - k))).toNat : Int) := by simp
      have HS : Hid ((bytesV (rbufK t k)).toArray.setIfInBounds k (byteV (UInt8.ofNat (t / 256 ^ (7 - k)))) = (bytesV (rbufK t (k + 1))).toArray) := Lib.hid (by rw [setV, rbufK_set t hlt])
      generalize UInt8.ofNat (t / 256 ^ (7 - k)) = cc at *
      have i0 : (0 : Int) ≤ (k : Int) := by omega
      have i1 : (k : Int) < 124 := by omega
      have HR : Hid (∃ k' : Nat, k' ≤ 8 ∧ Value.int .i64 ((k : Int) + 1) = .int .i64 (k' : Int) ∧ Below w.heap.size w (wr.setCell ⟨w.heap.size, k, none⟩ (.int .u8 (cc.toNat : Int))) ∧ Blk (wr.setCell ⟨w.heap.size, k, none⟩ (.int .u8 (cc.toNat : Int))) w.heap.size 5 (bytesV (rbufK t k')).toArray) :=
        Lib.hid ⟨k + 1, by omega, by simp, HX.out.1.setCell (p := ⟨w.heap.size, k, none⟩) (Nat.le_refl _) _, by have := HX.out.2.set_ k (byteV cc); rw [HS.out] at this; exact this⟩
      clear HS
      have hkk : k = 0 ∨ k = 1 ∨ k = 2 ∨ k = 3 ∨ k = 4 ∨ k = 5 ∨ k = 6 ∨ k = 7 := by omega
      rcases hkk with rfl | rfl | rfl | rfl | rfl | rfl | rfl | rfl
      · have hv2 : (t : Int) / 72057594037927936 = (cc.toNat : Int) := by omega
        clear hv
        go_wp2
        go_roundw
        case rel => exact HR.out
        case measure => simp [intOf]
      · have hv2 : ((t : Int) / 281474976710656) % 256 = (cc.toNat : Int) := by rw [← hv]; omega
        clear hv
        go_wp2
        go_roundw
        case rel => exact HR.out
        case measure => simp [intOf]
      · have hv2 : ((t : Int) / 1099511627776) % 256 = (cc.toNat : Int) := by rw [← hv]; omega
        clear hv
        go_wp2
        go_roundw
        case rel => exact HR.out
        case measure => simp [intOf]
      · have hv2 : ((t : Int) / 4294967296) % 256 = (cc.toNat : Int) := by rw [← hv]; omega
        clear hv
        go_wp2
        go_roundw
        case rel => exact HR.out
        case measure => simp [intOf]
      · have hv2 : ((t : Int) / 16777216) % 256 = (cc.toNat : Int) := by rw [← hv]; omega
        clear hv
        go_wp2
        go_roundw
        case rel => exact HR.out
        case measure => simp [intOf]
      · have hv2 : ((t : Int) / 65536) % 256 = (cc.toNat : Int) := by rw [← hv]; omega
        clear hv
        go_wp2
        go_roundw
        case rel => exact HR.out
        case measure => simp [intOf]
      · have hv2 : ((t : Int) / 256) % 256 = (cc.toNat : Int) := by rw [← hv]; omega
        clear hv
        go_wp2
        go_roundw
        case rel => exact HR.out
        case measure => simp [intOf]
      · have hv2 : ((t : Int)) % 256 = (cc.toNat : Int) := by rw [← hv]; omega
        clear hv
        go_wp2
        go_roundw
        case rel => exact HR.out
        case measure => simp [intOf]
    · obtain rfl : k = 8 := by omega
      have k8 : wr.cell? ⟨w.heap.size, 8, none⟩ = some (.int .u8 0) := by
        rw [HX.out.2.cell]; simp [rbufK, be8, bytesV, byteV, zeros]
      have z8 := HX.out.2.frozen 8
      have hlen8 : (x.length : Int) % 256 = (x.length : Int) := by omega
      have HN : Hid ((bytesV (rbufK t 8)).toArray.setIfInBounds 8 (.int .u8 (x.length : Int)) = (bytesV (rbufN t x)).toArray) := Lib.hid (by
        have := setV (rbufK t 8) 8 (UInt8.ofNat x.length)
        rw [rbufN_eq] at this
        rw [← this]
        unfold byteV
        congr 2
        simp; omega)
      have b8 := HX.out.2.set_ 8 (.int .u8 (x.length : Int))
      rw [HN.out] at b8
      have bb8 : Below w.heap.size w (wr.setCell ⟨w.heap.size, 8, none⟩ (.int .u8 (x.length : Int))) := HX.out.1.setCell (p := ⟨w.heap.size, 8, none⟩) (Nat.le_refl _) _
      have H4 := Lib.hid (And.intro b8 bb8)
      have HSL : Hid (Sl (wr.setCell ⟨w.heap.size, 8, none⟩ (.int .u8 (x.length : Int))) A (bytesV x)) := Lib.hid (H.out.below bb8 (Nat.le_refl _))
      have HNW : Hid (0 < (bytesV x).length → (some ⟨w.heap.size, 9, none⟩ : Option Addr) = some ⟨w.heap.size, 9, none⟩ ∧ ∃ ad, A = some ad ∧ ∀ j v, (bytesV x)[j]? = some v → (wr.setCell ⟨w.heap.size, 8, none⟩ (.int .u8 (x.length : Int))).cell? (ad.add j) = some v) := Lib.hid fun hn => by
        obtain ⟨b', o', e', _, _⟩ := HSL.out hn
        exact ⟨rfl, _, e', HSL.out.news e'⟩
      clear b8 bb8
      go_wp2_with (refine wpList_copy_splice rfl (.tmp 28) (.tmp 29) 27 27 rfl 5 Try.underlying27 infoU8one (some ⟨w.heap.size, 9, none⟩) A 115 115 x.length c rfl rfl w.heap.size 9 (bytesV (rbufN t x)) 5 H4.out.1 (bytesV x) (by rw [bytesV_len]; exact (Nat.min_eq_left (by omega)).symm) HNW.out (by rw [bytesV_len, bytesV_len]; simp [rbufN, be8_len, zeros]; omega) (oneCell_bytesV x) w.heap.size w H4.out.2 (Nat.le_refl _) ?_; intro w5 hg5 hb5)
      have hb5l : Blk w5 w.heap.size 5 (bytesV (slotBody t x)).toArray := by
        have := hg5.out
        rw [rbufX_eq t (by omega)] at this; exact this
      have hbl : (slotBody t x).length = 124 := slotBody_len t (by omega)
      have hsl : Sl w5 (some ⟨w.heap.size, 0, none⟩) (bytesV (slotBody t x)) := Sl.of_blk hb5l (fun j hj => by rw [Nat.zero_add, List.getElem?_toArray])
      have hof := ref_tally_of hsl 124 (by omega)
      rw [hbl] at hof
      have HOF := Lib.hid hof
      have H5 := Lib.hid (And.intro hb5l hb5)
      have HSB : Hid (slotBody t x ++ leRow (crcOf (slotBody t x)) = slotB t x) := Lib.hid rfl
      have hlt := crcOf_lt (slotBody t x)
      have HBL := Lib.hid hbl
      clear hb5l hb5 hg5 hsl hof hbl H4 HSL HNW k8 z8 HX HN
      generalize slotBody t x = body at *
      generalize crcOf body = n at *
      have hrow : ∃ c0 c1 c2 c3 : UInt8, leRow n = [c0, c1, c2, c3] ∧ (n : Int) % 256 = (c0.toNat : Int) ∧ ((n : Int) / 256) % 256 = (c1.toNat : Int) ∧ ((n : Int) / 65536) % 256 = (c2.toNat : Int) ∧ (n : Int) / 16777216 = (c3.toNat : Int) := by
        refine ⟨_, _, _, _, rfl, ?_, ?_, ?_, ?_⟩
        · simp
        · simp
        · simp
        · simp; omega
      obtain ⟨r0, r1, r2, r3, hrw, v0, v1, v2, v3⟩ := hrow
      have HRW := Lib.hid hrw
      clear hrw
      unfold u32V at HOF
      refine HOF.out.mono ?_
      rintro e w6 ⟨rfl, hdr⟩
      have H6 := Lib.hid (And.intro (H5.out.1.below hdr.below H5.out.1.lt) (Below.trans' H5.out.2 hdr.below H5.out.2.size))
      clear hdr
      obtain ⟨i0, hi, hz0, hz1, hz2⟩ := info_parts infoU8
      have hal : Below w.heap.size w (w6.alloc (.cells #[byteV r0, byteV r1, byteV r2, byteV r3] 5)) := H6.out.2.alloc H6.out.2.size _
      have HOW : Hid ((w6.alloc (.cells #[byteV r0, byteV r1, byteV r2, byteV r3] 5)).ownsRow w.heap.size 5 1 (.slice (some ⟨w.heap.size, 0, none⟩) 124 124) 124 (bytesV body)) := Lib.hid
        ⟨by rw [bytesV_len, HBL.out], .inr ⟨w.heap.size, 124, _, rfl, by omega, H6.out.1.alloc _, by omega, by unfold maxLen; omega, by simp [bytesV, HBL.out], by
          rw [List.toList_toArray, List.take_of_length_le (by rw [bytesV_len, HBL.out]; omega)]⟩⟩
      have HSR : Hid (Sl (w6.alloc (.cells #[byteV r0, byteV r1, byteV r2, byteV r3] 5)) (some ⟨w6.heap.size, 0, none⟩) (bytesV (leRow n))) := Lib.hid (Sl.of_blk (Blk.new w6 5 #[byteV r0, byteV r1, byteV r2, byteV r3]) (fun j _ => by rw [HRW.out, Nat.zero_add]; simp [bytesV]))
      have HAL := Lib.hid hal
      clear hal
      go_wp2_with (at_builtin; refine wpList_append_sl _ rfl _ _ _ rfl w.heap.size 5 i0 (.int .u8 0) 1 Try.underlying27 hi hz0 hz1 hz2 rfl (.slice (some ⟨w.heap.size, 0, none⟩) 124 124) 124 (bytesV body) rfl HOW.out (some ⟨w6.heap.size, 0, none⟩) 4 4 (bytesV (leRow n)) rfl (by rw [bytesV_len, leRow_len]) HSR.out (oneCell_bytesV _) (by unfold maxLen; omega) (by omega) HAL.out.size ?_; intro v' w8 hown8 hgrow8 hat8)
      go_ret
      refine ⟨_, rfl, ?_, ?_⟩
      · have e : (bytesV (body ++ leRow n)).length = 124 + 4 := by rw [bytesV_len, List.length_append, HBL.out, leRow_len]
        rw [← HSB.out, e, bytesV_append]
        exact hown8
      · exact HAL.out.grown hgrow8 HAL.out.size (fun k hk => by
          have : w.heap.size = k := by simpa [Value.ownBlock] using hk
          omega)
end Go.Proofs.Ytfcialmdediojaa
