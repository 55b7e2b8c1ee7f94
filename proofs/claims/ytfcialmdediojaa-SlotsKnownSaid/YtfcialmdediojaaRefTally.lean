/-
  the reference's sum of bytes.
-/
import Derived.Test.YtfcialmdediojaaTally
namespace Go.Proofs.Ytfcialmdediojaa
set_option linter.unusedVariables false
set_option linter.unusedSimpArgs false
open Go.RowKit
def RefOnRel (w : World) (l : List UInt8) (r : Nat) (x y : Value) (wr : World) : Prop :=
  ∃ k : Nat, k ≤ l.length ∧ x = .int .i64 (k : Int) ∧ y = u32V (crcL (4294967295 - r) (l.take k)) ∧ Drawn w wr
def RefBitRel (w : World) (n : Nat) (x y : Value) (wr : World) : Prop := ∃ k : Nat, k ≤ 8 ∧ x = .int .i64 (k : Int) ∧ y = u32V (crcBits k n) ∧ Drawn w wr
theorem band1 (r : Nat) (h : r < 4294967296) : bits .and .u32 (r : Int) 1 = ((r % 2 : Nat) : Int) := by
  have := u32_and_nat r 1 h (by omega)
  rw [Nat.and_one_is_mod] at this; exact this
theorem Below.drawn {B : Nat} {a w w' : World} (h : Below B a w) (k : Drawn w w') : Below B a w' := by
  obtain ⟨q, rfl⟩ := k; exact ⟨h.os, h.tape, h.output, h.size, h.block⟩
set_option maxRecDepth 100000 in
set_option maxHeartbeats 1600000 in
theorem ref_tally_on {w : World} {A : Option Addr} {l : List UInt8} (h : Sl w A (bytesV l)) (c r : Nat) (hr : r < 4294967296) (hl : l.length ≤ 140737488355328) :
    Calls Try.prog 89 #[u32V r, .slice A l.length c] w fun e w' => e = .returned (u32V (crcOn r l)) ∧ Drawn w w' := by
  have H := Lib.hid h
  clear h
  unfold u32V
  have hf0 := bits_full hr
  go_enter Try.func89, Try.ntmps89
  go_wp2
  go_loopw [6, 5] (fun x y wr => RefOnRel w l r x y wr) (fun x _ _ => l.length - (intOf x).toNat)
  case atStart => exact ⟨0, Nat.zero_le _, rfl, by simp [crcL, u32V], Drawn.refl w⟩
  case round =>
    obtain ⟨k, hk, rfl, rfl, hb⟩ := hrel
    have HB := Lib.hid hb
    clear hb
    unfold u32V
    by_cases hlt : k < l.length
    · obtain ⟨b1, o1, rfl, hb1, hc1⟩ := H.out.at_ (k := k) (by rw [bytesV_len]; exact hlt)
      have c1 : wr.cell? ⟨b1, o1 + k, none⟩ = some (.int .u8 (l[k].toNat : Int)) := by obtain ⟨q, rfl⟩ := HB.out; simpa [bytesV, byteV] using hc1
      have i0 : (0 : Int) ≤ (k : Int) := by omega
      have i1 : (k : Int) < (l.length : Int) := by omega
      have HK := Lib.hid (List.take_succ_eq_append_getElem hlt)
      clear hc1
      have hs : crcL (4294967295 - r) (l.take k) < 4294967296 := crcL_lt _ (by omega)
      generalize hss : crcL (4294967295 - r) (l.take k) = s at *
      have HS := Lib.hid hss
      clear hss
      have hx : l[k].toNat < 256 := UInt8.toNat_lt _
      have hst : crcByte s l[k] = crcBits 8 (s ^^^ l[k].toNat) := rfl
      have hxx := u32_xor_nat s l[k].toNat hs (by omega)
      have hy := xor_lt hs (show l[k].toNat < 4294967296 by omega)
      generalize s ^^^ l[k].toNat = y at *
      generalize l[k] = x at *
      have HC := Lib.hid hst
      clear hst
      go_wp2_with fail
      go_loopw [7, 5] (fun x z wr => RefBitRel w y x z wr) (fun x _ _ => 8 - (intOf x).toNat)
      case atStart => exact ⟨0, by omega, rfl, rfl, HB.out⟩
      case round =>
        obtain ⟨j, hj, rfl, rfl, hb⟩ := hrel
        have HB := Lib.hid hb
        clear hb
        have hr : crcBits j y < 4294967296 := crcBits_lt j hy
        unfold u32V
        by_cases hj8 : j < 8
        · have hdj : decide ((j : Int) < 8) = true := by simp; omega
          generalize hrr : crcBits j y = q at *
          have HR := Lib.hid hrr
          clear hrr
          have hb1 := band1 q hr
          have e2 : ((q : Int) / 2) = ((q / 2 : Nat) : Int) := by omega
          rcases Nat.mod_two_eq_zero_or_one q with h0 | h0
          · rw [h0] at hb1
            have HE : Hid (crcBit q = q / 2) := Lib.hid (by unfold crcBit; rw [if_neg (by omega)])
            clear e2
            go_wp2
            go_round
            case rel => exact ⟨j + 1, by omega, by go_num, by rw [crcBits_snoc, HR.out, HE.out]; rfl, HB.out⟩
            case measure => simp [intOf]; omega
          · rw [h0] at hb1
            have e3 : bits .xor .u32 ((q / 2 : Nat) : Int) 3988292384 = ((q / 2 ^^^ 3988292384 : Nat) : Int) := u32_xor_nat (q / 2) 3988292384 (by omega) (by omega)
            have HE : Hid (crcBit q = q / 2 ^^^ 3988292384) := Lib.hid (by unfold crcBit; rw [if_pos h0])
            have e4 : bits .xor .u32 ((q : Int) / 2) 3988292384 = ((q / 2 ^^^ 3988292384 : Nat) : Int) := by rw [← e3, e2]
            clear e3 e2
            go_wp2
            go_round
            case rel => exact ⟨j + 1, by omega, by go_num, by rw [crcBits_snoc, HR.out, HE.out]; rfl, HB.out⟩
            case measure => simp [intOf]; omega
        · have hdj : decide ((j : Int) < 8) = false := by simp; omega
          obtain rfl : j = 8 := by omega
          rw [← HC.out]
          have HW : Hid (crcByte s x = crcByte s x) := Lib.hid rfl
          rw [← HC.out] at hr
          generalize hcb : crcByte s x = q at *
          have HQ := Lib.hid hcb
          clear hcb
          go_wp2
          go_roundw
          case rel => exact ⟨k + 1, by omega, by go_num, by rw [HK.out, crcL_snoc, HS.out, HQ.out]; rfl, HB.out⟩
          case measure => simp [intOf]; omega
    · obtain rfl : k = l.length := by omega
      have hs : crcL (4294967295 - r) (l.take l.length) < 4294967296 := crcL_lt _ (by omega)
      rw [List.take_length] at hs ⊢
      have HE : Hid (4294967295 - crcL (4294967295 - r) l = crcOn r l) := Lib.hid rfl
      generalize crcL (4294967295 - r) l = s at *
      have hf := bits_full hs
      go_wp2
      go_ret
      exact ⟨by rw [← HE.out, ← hf]; rfl, HB.out⟩
set_option maxRecDepth 100000 in
theorem ref_tally_of {w : World} {A : Option Addr} {l : List UInt8} (h : Sl w A (bytesV l)) (c : Nat) (hl : l.length ≤ 140737488355328) :
    Calls Try.prog 75 #[.slice A l.length c] w fun e w' => e = .returned (u32V (crcOf l)) ∧ Drawn w w' := by
  have H := Lib.hid h
  clear h
  go_enter Try.func75, Try.ntmps75
  go_wp2_with fail
  refine (ref_tally_on H.out c 0 (by omega) hl).mono ?_
  rintro e w1 ⟨rfl, hb⟩
  go_wp2
  go_ret
  exact ⟨rfl, hb⟩
end Go.Proofs.Ytfcialmdediojaa
