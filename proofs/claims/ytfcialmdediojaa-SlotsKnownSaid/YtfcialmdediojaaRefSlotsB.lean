/-
  The reference's slots: what a sector has.
-/
import Derived.Test.YtfcialmdediojaaRefSlots
namespace Go.Proofs.Ytfcialmdediojaa
set_option linter.unusedVariables false
set_option linter.unusedSimpArgs false
open Go.RowKit
theorem or_i64 (n : Nat) (h : n < 72057594037927936) (c : UInt8) : bits .or .i64 (IntKind.i64.wrap ((n : Int) * 256)) (c.toNat : Int) = IntKind.i64.wrap ((n * 256 + c.toNat : Nat) : Int) := by
  have h2 : c.toNat < 256 := UInt8.toNat_lt c
  have h3 := Nat.two_pow_add_eq_or_of_lt (i := 8) (b := c.toNat) h2 n
  show IntKind.i64.wrap ((BitVec.ofInt 64 (IntKind.i64.wrap ((n : Int) * 256)) ||| BitVec.ofInt 64 (c.toNat : Int)).toNat : Int) = _
  rw [BitVec.toNat_or]
  have e1 : (BitVec.ofInt 64 (IntKind.i64.wrap ((n : Int) * 256))).toNat = 2 ^ 8 * n := by
    rw [BitVec.toNat_ofInt, IntKind.wrap_i64]; omega
  have e2 : (BitVec.ofInt 64 (c.toNat : Int)).toNat = c.toNat := by
    rw [BitVec.toNat_ofInt]; omega
  rw [e1, e2, ← h3]
  congr 2; omega
theorem count_all (x : List UInt8) : x.count 0 = x.length ↔ ∀ i (h : i < x.length), x[i] = 0 := by
  rw [List.count_eq_length]
  constructor
  · intro h i hi; exact (h _ (List.getElem_mem hi)).symm
  · intro h b hb
    obtain ⟨i, hi, rfl⟩ := List.getElem_of_mem hb
    exact (h i hi).symm
def RefSlotEnd (w : World) (x : List UInt8) (e : Ending) (w' : World) : Prop :=
  ∃ t' G n cp, e = .returned (.tuple #[.int .i64 t', .slice G n cp, .bool (slotOf x).isSome]) ∧ Below w.heap.size w w' ∧
    ∀ t y, slotOf x = some (t, y) → t' = (t : Int) ∧ n = y.length ∧ Sl w' G (bytesV y) ∧ ∀ ad, G = some ad → w.heap.size ≤ ad.block
set_option maxRecDepth 100000 in
set_option maxHeartbeats 1600000 in
theorem refslot_slot {w : World} {g o : Nat} {x : List UInt8} (h : Sl w (some ⟨g, o, none⟩) (bytesV x)) (hl : x.length = 128) (cp : Nat) (hcp : 128 ≤ cp) :
    Calls Try.prog 58 #[.slice (some ⟨g, o, none⟩) 128 cp] w (RefSlotEnd w x) := by
  have H := Lib.hid h
  clear h
  go_enter Try.func58, Try.ntmps58
  go_wp2
  go_loopw [6, 5] (fun y z wr => ∃ k : Nat, k ≤ 128 ∧ y = .int .i64 (k : Int) ∧ z = .bool (decide ((x.take k).count 0 = k)) ∧ wr = w) (fun y _ _ => 128 - (intOf y).toNat)
  case atStart => exact ⟨0, by omega, rfl, by simp, rfl⟩
  case round =>
    obtain ⟨k, hk, rfl, rfl, rfl⟩ := hrel
    by_cases hlt : k < 128
    · have hkx : k < x.length := by omega
      obtain ⟨b1, o1, e1, hb1, hc1⟩ := H.out.at_ (k := k) (by rw [bytesV_len]; exact hkx)
      injection e1 with e1; injection e1 with e1 e2; subst e1; subst e2
      have c1 : wr.cell? ⟨g, o + k, none⟩ = some (.int .u8 (x[k].toNat : Int)) := by simpa [bytesV, byteV] using hc1
      have i0 : (0 : Int) ≤ (k : Int) := by omega
      have i1 : (k : Int) < 128 := by omega
      have hle : (x.take k).count 0 ≤ k := Nat.le_trans List.count_le_length (by rw [List.length_take]; omega)
      have HK : Hid ((x.take (k + 1)).count 0 = (x.take k).count 0 + if x[k] = 0 then 1 else 0) := Lib.hid (by
        rw [List.take_succ_eq_append_getElem hkx, List.count_append]
        congr 1
        by_cases h : x[k] = 0 <;> simp [List.count_cons, h])
      clear hc1
      generalize (x.take k).count 0 = m at *
      generalize x[k] = cc at *
      by_cases hm : m = k
      · subst hm
        by_cases hz : cc = 0
        · subst hz
          go_wp2
          go_roundw
          case rel => exact ⟨m + 1, by omega, by go_num, by rw [HK.out]; simp, by first | rfl | trivial⟩
          case measure => simp [intOf]; omega
        · have hzb : ((cc.toNat : Int) == 0) = false := by
            rw [beq_eq_false_iff_ne]; intro e; exact hz (UInt8.toNat_inj.1 (by simpa using (by omega : cc.toNat = 0)))
          rw [if_neg hz] at HK
          clear hz
          go_wp2
          go_roundw
          case rel => exact ⟨m + 1, by omega, by go_num, by rw [HK.out]; simp, by first | rfl | trivial⟩
          case measure => simp [intOf]; omega
      · have hmd : decide (m = k) = false := by simp [hm]
        have HK2 : Hid (decide ((x.take (k + 1)).count 0 = k + 1) = false) := Lib.hid (by rw [HK.out]; simp; split <;> omega)
        rw [hmd]
        clear hmd HK
        go_wp2
        go_roundw
        case rel => exact ⟨k + 1, by omega, by go_num, by rw [HK2.out], by first | rfl | trivial⟩
        case measure => simp [intOf]; omega
    · obtain rfl : k = 128 := by omega
      have htk : x.take 128 = x := List.take_of_length_le (by omega)
      rw [htk]
      by_cases hc : x.count 0 = 128
      · have hcd : decide (x.count 0 = 128) = true := by simp [hc]
        have HS : Hid (slotOf x = some (0, [])) := Lib.hid (by unfold slotOf; rw [if_pos (by omega)])
        rw [hcd]
        clear hcd hc
        go_wp2
        go_ret3
        refine ⟨0, none, 0, 0, by rw [HS.out]; rfl, Below.refl _ _, fun t y hty => ?_⟩
        rw [HS.out] at hty
        injection hty with hty; injection hty with e1 e2; subst e1; subst e2
        exact ⟨rfl, rfl, Sl.nil _ _, fun ad h => by cases h⟩
      · have hcd : decide (x.count 0 = 128) = false := by simp [hc]
        have HSO : Hid (slotOf x = if beNat (x.take 8) = 0 ∨ 9007199254740991 < beNat (x.take 8) ∨ 100 < (x.getD 8 0).toNat then none
              else if slotB (beNat (x.take 8)) ((x.drop 9).take (x.getD 8 0).toNat) = x then some (beNat (x.take 8), (x.drop 9).take (x.getD 8 0).toNat) else none) := Lib.hid (by unfold slotOf; rw [if_neg (by omega)])
        rw [hcd]
        clear hcd hc htk
        go_wp2
        go_loopw [8, 7] (fun y z w' => ∃ k : Nat, k ≤ 8 ∧ y = .int .i64 (k : Int) ∧ z = .int .i64 (IntKind.i64.wrap ((beNat (x.take k) : Nat) : Int)) ∧ w' = wr) (fun y _ _ => 8 - (intOf y).toNat)
        case atStart => exact ⟨0, by omega, rfl, rfl, rfl⟩
        case round =>
          obtain ⟨k, hk, rfl, rfl, rfl⟩ := hrel
          by_cases hlt : k < 8
          · have hkx : k < x.length := by omega
            obtain ⟨b1, o1, e1, hb1, hc1⟩ := H.out.at_ (k := k) (by rw [bytesV_len]; exact hkx)
            injection e1 with e1; injection e1 with e1 e2; subst e1; subst e2
            have c1 : wr.cell? ⟨g, o + k, none⟩ = some (.int .u8 (x[k].toNat : Int)) := by simpa [bytesV, byteV] using hc1
            have hx : x[k].toNat < 256 := UInt8.toNat_lt _
            have hn := beNat_take_lt x hlt
            have hor := or_i64 (beNat (x.take k)) hn x[k]
            have hw0 : IntKind.i64.wrap ((beNat (x.take k) : Nat) : Int) = ((beNat (x.take k) : Nat) : Int) := by rw [IntKind.wrap_i64]; omega
            have HK : Hid (beNat (x.take (k + 1)) = beNat (x.take k) * 256 + x[k].toNat) := Lib.hid (by rw [List.take_succ_eq_append_getElem hkx, beNat_snoc])
            have i0 : (0 : Int) ≤ (k : Int) := by omega
            have i1 : (k : Int) < 8 := by omega
            clear hc1 hb1
            generalize beNat (x.take k) = n at *
            generalize x[k].toNat = cc at *
            rw [hw0]
            have hwr : IntKind.i64.wrap ((n : Int) * 256) = wrap64 ((n : Int) * 256) := by rw [IntKind.wrap_i64]; unfold wrap64; rfl
            have HOR := Lib.hid (And.intro hor hwr)
            clear hor hwr
            go_wp2
            go_roundw
            case rel => exact ⟨k + 1, by omega, by go_num, by rw [HK.out, ← HOR.out.1, HOR.out.2], by first | rfl | trivial⟩
            case measure => simp [intOf]; omega
          · obtain rfl : k = 8 := by omega
            have hkx : 8 < x.length := by omega
            obtain ⟨b1, o1, e1, hb1, hc1⟩ := H.out.at_ (k := 8) (by rw [bytesV_len]; exact hkx)
            injection e1 with e1; injection e1 with e1 e2; subst e1; subst e2
            have hgd : x.getD 8 0 = x[8] := by simp [List.getD, hkx]
            have c1 : wr.cell? ⟨g, o + 8, none⟩ = some (.int .u8 ((x.getD 8 0).toNat : Int)) := by rw [hgd]; simpa [bytesV, byteV] using hc1
            have hx : (x.getD 8 0).toNat < 256 := UInt8.toNat_lt _
            have hn := beNat_take_lt8 x
            clear hc1 hb1 hgd
            generalize beNat (x.take 8) = n at *
            generalize (x.getD 8 0).toNat = q at *
            have hT : ∃ T : Int, IntKind.i64.wrap ((n : Nat) : Int) = T ∧ ((n = 0 ∨ 9007199254740991 < n) → T < 1 ∨ 9007199254740991 < T) ∧ (¬ (n = 0 ∨ 9007199254740991 < n) → T = (n : Int)) := by
              refine ⟨_, rfl, ?_, ?_⟩ <;> (rw [IntKind.wrap_i64]; omega)
            obtain ⟨T, hTw, hTb, hTg⟩ := hT
            rw [hTw]
            clear hTw
            by_cases hbad : n = 0 ∨ 9007199254740991 < n ∨ 100 < q
            · have HS : Hid (slotOf x = none) := Lib.hid (by rw [HSO.out, if_pos hbad])
              have HF : Hid (RefSlotEnd wr x (.returned (.tuple #[.int .i64 0, .slice none 0 0, .bool false])) wr) := Lib.hid ⟨0, none, 0, 0, by rw [HS.out]; rfl, Below.refl _ _, fun t y hty => by rw [HS.out] at hty; cases hty⟩
              by_cases h1 : T < 1
              · have h1b : decide (T < 1) = true := by simp [h1]
                clear hbad HSO hTb hTg
                go_wp2
                go_ret3
                exact HF.out
              · by_cases h2 : 9007199254740991 < T
                · have h2b : decide (9007199254740991 < T) = true := by simp [h2]
                  clear hbad HSO hTb hTg
                  go_wp2
                  go_ret3
                  exact HF.out
                · have h3 : 100 < q := by
                    rcases hbad with h | h | h
                    · exact absurd (hTb (.inl h)) (by omega)
                    · exact absurd (hTb (.inr h)) (by omega)
                    · exact h
                  clear hbad HSO hTb hTg
                  go_wp2
                  go_ret3
                  exact HF.out
            · have hT2 : T = (n : Int) := hTg (by omega)
              subst hT2
              have hq : q ≤ 100 := by omega
              have hn1 : 1 ≤ n ∧ n ≤ 9007199254740991 := by omega
              have HR2 : Hid (slotOf x = if slotB n ((x.drop 9).take q) = x then some (n, (x.drop 9).take q) else none) := Lib.hid (by rw [HSO.out, if_neg hbad])
              have hyl : ((x.drop 9).take q).length = q := by rw [List.length_take, List.length_drop]; omega
              have hys : Sl wr (some ⟨g, o + 9, none⟩) (bytesV ((x.drop 9).take q)) := fun _ => ⟨g, o + 9, rfl, H.out.lt _ rfl (by rw [bytesV_len]; omega), fun j hj => by
                rw [bytesV_len, hyl] at hj
                obtain ⟨b1, o1, e1, -, hc1⟩ := H.out.at_ (k := 9 + j) (by rw [bytesV_len]; omega)
                injection e1 with e1; injection e1 with e1 e2; subst e1; subst e2
                rw [← Nat.add_assoc] at hc1; rw [hc1]; simp [bytesV]⟩
              generalize (x.drop 9).take q = y at *
              have hcl := copyBytes_sl hys (cp - 9) (by omega)
              rw [hyl] at hcl
              have HCL := Lib.hid hcl
              have HYL := Lib.hid hyl
              have hcp3 : cp ≠ 9 := by omega
              clear hbad HSO hTb hTg hcl hys hyl
              go_wp2_with fail
              refine HCL.out.mono ?_
              rintro e w4 ⟨G, cp4, rfl, hG, hGb, hb4⟩
              have H4 := Lib.hid (And.intro hG (And.intro hGb (And.intro hb4 (H.out.below hb4 (Nat.le_refl _)))))
              clear hG hGb hb4
              go_wp2_with fail
              have hse := refslot_sector H4.out.1 cp4 n (by omega) (by rw [HYL.out]; exact hq)
              rw [HYL.out] at hse
              refine hse.mono ?_
              clear hse
              rintro e w6 ⟨v, rfl, hown, hb6⟩
              obtain ⟨G6, cp6, rfl, hG6, hcp6, -, hGb6⟩ := slice_of_own hown
              rw [bytesV_len] at hcp6 ⊢
              have H6 := Lib.hid (And.intro (H4.out.1.below hb6 (Nat.le_refl _)) (And.intro (Below.trans' H4.out.2.2.1 hb6 H4.out.2.2.1.size) (And.intro (H4.out.2.2.2.below hb6 (Nat.le_refl _)) hG6)))
              clear hown hb6 hG6 hGb6
              go_wp2_with fail
              have heq := eqBytes H6.out.2.2.2 H6.out.2.2.1 cp6 cp (by rw [slotB_len n (by rw [HYL.out]; omega)]; omega)
              rw [hl] at heq
              refine heq.mono ?_
              clear heq
              rintro e w7 ⟨rfl, hdr⟩
              have HF : Hid (RefSlotEnd wr x (.returned (.tuple #[.int .i64 (n : Int), .slice G q cp4, .bool (slotB n y == x)])) w7) := Lib.hid (by
                refine ⟨n, G, q, cp4, ?_, Below.drawn H6.out.2.1 hdr, fun t' y' hty => ?_⟩
                · rw [HR2.out]
                  by_cases hh : slotB n y = x
                  · rw [if_pos hh, show (slotB n y == x) = true from by rw [beq_iff_eq]; exact hh]; rfl
                  · rw [if_neg hh, show (slotB n y == x) = false from by rw [beq_eq_false_iff_ne]; exact hh]; rfl
                · rw [HR2.out] at hty
                  by_cases hh : slotB n y = x
                  · rw [if_pos hh] at hty
                    injection hty with hty; injection hty with e1 e2; subst e1; subst e2
                    obtain ⟨qq, rfl⟩ := hdr
                    exact ⟨rfl, HYL.out.symm, H6.out.1, fun ad ha => H4.out.2.1 ad ha⟩
                  · rw [if_neg hh] at hty; cases hty)
              generalize (slotB n y == x) = bb at *
              clear hdr
              go_wp2
              go_ret3
              exact HF.out
end Go.Proofs.Ytfcialmdediojaa
