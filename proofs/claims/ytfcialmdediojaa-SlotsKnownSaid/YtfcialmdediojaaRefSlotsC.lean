/-
  The reference's slots: Open.
-/
import Derived.Test.YtfcialmdediojaaRefSlotsB
namespace Go.Proofs.Ytfcialmdediojaa
set_option linter.unusedVariables false
set_option linter.unusedSimpArgs false
open Go.RowKit
def RefSlo (w : World) (s db : Nat) (first : Int) (turn which : Nat) : Prop := Blk w s 92 #[.pointer (some ⟨db, 0, none⟩), .int .i64 first, .int .i64 (turn : Int), .int .i64 (which : Int)]
def RefOpenEnd (w : World) (db : Nat) (first : Int) (r : Option (Nat × Nat × List UInt8) × Int) (e : Ending) (w' : World) : Prop :=
  Below w.heap.size w w' ∧ match r with
  | (none, er) => e = .returned (.tuple #[.pointer none, .slice none 0 0, .int .i64 er])
  | (some (t, q, x), _) => ∃ s G cp, e = .returned (.tuple #[.pointer (some ⟨s, 0, none⟩), .slice G x.length cp, .int .i64 0]) ∧ RefSlo w' s db first t q ∧ w.heap.size ≤ s ∧ Sl w' G (bytesV x) ∧ ∀ ad, G = some ad → w.heap.size ≤ ad.block
theorem openS_r0 {d : Dev} {first : Int} (h : (d.read first).2 ≠ 0) : openS d first = (none, (d.read first).2) := by
  have h2 : (d.read first).2 ≠ 110 := by rcases read_err d first with h | h | h <;> rw [h] <;> omega
  have hr : readS d first = (0, [], (d.read first).2) := by unfold readS; rw [if_pos h]
  unfold openS openOf
  rw [hr]
  exact if_pos ⟨h, h2⟩
theorem openS_r1 {d : Dev} {first : Int} (h0 : (d.read first).2 = 0) (h : (d.read (first + 1)).2 ≠ 0) : openS d first = (none, (d.read (first + 1)).2) := by
  have h2 : (d.read (first + 1)).2 ≠ 110 := by rcases read_err d (first + 1) with h | h | h <;> rw [h] <;> omega
  have hr : readS d (first + 1) = (0, [], (d.read (first + 1)).2) := by unfold readS; rw [if_pos h]
  have hr0 : (readS d first).2.2 = 0 ∨ (readS d first).2.2 = 110 := by
    unfold readS; rw [if_neg (by omega)]
    split
    · exact .inl rfl
    · exact .inr rfl
  unfold openS openOf
  rw [hr, if_neg (by omega)]
  exact if_pos ⟨h, h2⟩
theorem openS_slots {d : Dev} {first : Int} (h0 : (d.read first).2 = 0) (h1 : (d.read (first + 1)).2 = 0) : openS d first =
    match slotOf (d.read first).1, slotOf (d.read (first + 1)).1 with
    | some (m, a), some (n, b) => if m = n ∧ 0 < m then (none, 110) else if m < n then (some (n, 1, b), 0) else (some (m, 0, a), 0)
    | _, _ => (none, 110) := by
  have hr : ∀ i, (d.read i).2 = 0 → readS d i = match slotOf (d.read i).1 with | some (t, x) => (t, x, 0) | none => (0, [], 110) := fun i h => by
    unfold readS; rw [if_neg (by omega)]
    cases slotOf (d.read i).1 with | none => rfl | some p => rfl
  unfold openS openOf
  rw [hr _ h0, hr _ h1]
  cases slotOf (d.read first).1 with
  | none =>
    cases slotOf (d.read (first + 1)).1 with
    | none => simp
    | some p => simp
  | some p =>
    cases slotOf (d.read (first + 1)).1 with
    | none => simp
    | some q => simp
set_option maxRecDepth 100000 in
set_option maxHeartbeats 1600000 in
theorem refslots_open {w : World} {col : Col} {c db : Nat} {d : Dev} (h : RefP w col c db d) (hp : Plain w col) (first : Int) (hf : -1000000 ≤ first ∧ first ≤ 1000000) :
    Calls Try.prog 37 #[.pointer (some ⟨db, 0, none⟩), .int .i64 first] w (RefOpenEnd w db first (openS d first)) := by
  have hok := h.1
  have H := Lib.hid h
  clear h
  by_cases he0 : (d.read first).2 = 0
  case neg =>
    rw [openS_r0 he0]
    have hb : ((d.read first).2 != 0) = true := by rw [bne_iff_ne]; exact he0
    clear he0
    go_enter Try.func37, Try.ntmps37
    go_wp2_with fail
    refine (refdev_read H.out first).mono ?_
    rintro e w1 ⟨v, rfl, hown, hb1⟩
    have HB := Lib.hid hb1
    clear hown hb1
    generalize hq : (d.read first).2 = er at *
    have HQ := Lib.hid hq
    clear hq
    go_wp2
    go_ret3
    exact ⟨HB.out, rfl⟩
  by_cases he1 : (d.read (first + 1)).2 = 0
  case neg =>
    rw [openS_r1 he0 he1]
    have hb : ((d.read (first + 1)).2 != 0) = true := by rw [bne_iff_ne]; exact he1
    clear he1
    go_enter Try.func37, Try.ntmps37
    go_wp2_with fail
    refine (refdev_read H.out first).mono ?_
    rintro e w1 ⟨v, rfl, hown, hb1⟩
    have HB := Lib.hid hb1
    clear hown hb1
    rw [he0]
    go_wp2_with fail
    refine (refdev_read (H.out.ext (.of_below HB.out hp) (C := fun _ => False) (fun h => h) (fun h => h)) (first + 1)).mono ?_
    rintro e w2 ⟨v2, rfl, hown2, hb2⟩
    have HB2 := Lib.hid (Below.trans' HB.out hb2 HB.out.size)
    clear hown2 hb2
    generalize hq : (d.read (first + 1)).2 = er at *
    have HQ := Lib.hid hq
    clear hq
    go_wp2
    go_ret3
    exact ⟨HB2.out, rfl⟩
  have hos := openS_slots he0 he1
  have hl0 := read_len hok he0
  have hl1 := read_len hok he1
  generalize openS d first = r at *
  have HOS := Lib.hid hos
  have HLN := Lib.hid (And.intro hl0 hl1)
  clear hos hl0 hl1
  go_enter Try.func37, Try.ntmps37
  go_wp2_with fail
  refine (refdev_read H.out first).mono ?_
  rintro e w1 ⟨v, rfl, hown, hb1⟩
  obtain ⟨G1, cp1, rfl, hG1, hcp1, hGp1, -⟩ := slice_of_own hown
  rw [he0, HLN.out.1]
  rw [HLN.out.1] at hcp1 hGp1
  obtain ⟨g1, rfl, -⟩ := hGp1 (by omega)
  have H1 := Lib.hid (And.intro hb1 hG1)
  clear hown hb1 hG1 hGp1
  go_wp2_with fail
  refine (refdev_read (H.out.ext (.of_below H1.out.1 hp) (C := fun _ => False) (fun h => h) (fun h => h)) (first + 1)).mono ?_
  rintro e w2 ⟨v, rfl, hown, hb2⟩
  obtain ⟨G2, cp2, rfl, hG2, hcp2, hGp2, -⟩ := slice_of_own hown
  rw [he1, HLN.out.2]
  rw [HLN.out.2] at hcp2 hGp2
  obtain ⟨g2, rfl, -⟩ := hGp2 (by omega)
  have H2 := Lib.hid (And.intro (Below.trans' H1.out.1 hb2 H1.out.1.size) (And.intro (H1.out.2.below hb2 (Nat.le_refl _)) hG2))
  clear hown hb2 hG2 hGp2 he0 he1
  generalize (d.read first).1 = x at *
  generalize (d.read (first + 1)).1 = y at *
  go_wp2_with fail
  refine (refslot_slot H2.out.2.1 HLN.out.1 cp1 hcp1).mono ?_
  rintro e w3 ⟨t3, G3, n3, cp3, rfl, hb3, hs3⟩
  have H3 := Lib.hid (And.intro (Below.trans' H2.out.1 hb3 H2.out.1.size) (And.intro (H2.out.2.2.below hb3 (Nat.le_refl _)) (And.intro hs3 H2.out.1.size)))
  clear hb3 hs3
  go_wp2_with fail
  refine (refslot_slot H3.out.2.1 HLN.out.2 cp2 hcp2).mono ?_
  rintro e w4 ⟨t4, G4, n4, cp4, rfl, hb4, hs4⟩
  have HB34 := Lib.hid hb4
  have H4 := Lib.hid (And.intro (Below.trans' H3.out.1 hb4 H3.out.1.size) (And.intro hs4 H3.out.1.size))
  clear hb4 hs4
  cases hsx : slotOf x with
  | none =>
    have HR : Hid (r = (none, 110)) := Lib.hid (by rw [HOS.out, hsx])
    clear HOS hsx
    generalize (slotOf y).isSome = bb at *
    simp only [Option.isSome]
    go_wp2
    go_ret3
    rw [HR.out]
    exact ⟨H4.out.1, rfl⟩
  | some p =>
    obtain ⟨m, a⟩ := p
    cases hsy : slotOf y with
    | none =>
      have HR : Hid (r = (none, 110)) := Lib.hid (by rw [HOS.out, hsx, hsy])
      simp only [Option.isSome]
      clear HOS hsx hsy
      go_wp2
      go_ret3
      rw [HR.out]
      exact ⟨H4.out.1, rfl⟩
    | some p =>
      obtain ⟨n, b⟩ := p
      obtain ⟨rfl, rfl, hsa, hga⟩ := H3.out.2.2.1 _ _ hsx
      obtain ⟨rfl, rfl, hsb, hgb⟩ := H4.out.2.1 _ _ hsy
      have HR : Hid (r = if m = n ∧ 0 < m then (none, 110) else if m < n then (some (n, 1, b), 0) else (some (m, 0, a), 0)) := Lib.hid (by rw [HOS.out, hsx, hsy])
      have HA := Lib.hid (And.intro (hsa.below HB34.out (Nat.le_refl _)) (fun ad ha => Nat.le_trans H2.out.1.size (hga ad ha)))
      have HBb := Lib.hid (And.intro hsb (fun ad ha => Nat.le_trans H3.out.1.size (hgb ad ha)))
      simp only [Option.isSome]
      clear HOS hsx hsy hsa hga hsb hgb
      by_cases hbad : m = n ∧ 0 < m
      · rw [if_pos hbad] at HR
        obtain ⟨rfl, hpos⟩ := hbad
        have hp0 : decide ((0 : Int) < (m : Int)) = true := by simp; omega
        go_wp2
        go_ret3
        rw [HR.out]
        exact ⟨H4.out.1, rfl⟩
      · rw [if_neg hbad] at HR
        have hne : ((m : Int) == (n : Int)) = false ∨ (m = 0 ∧ n = 0) := by
          by_cases h : m = n
          · exact .inr (by omega)
          · exact .inl (by rw [beq_eq_false_iff_ne]; omega)
        clear hbad
        by_cases hlt : m < n
        · rw [if_pos hlt] at HR
          have b1 : ((m : Int) == (n : Int)) = false := by rw [beq_eq_false_iff_ne]; omega
          clear hne
          go_wp2
          go_ret3
          rw [HR.out]
          exact ⟨H4.out.1.alloc H4.out.1.size _, w4.heap.size, G4, cp4, rfl, Blk.new w4 92 _, H4.out.1.size, HBb.out.1.alloc _, HBb.out.2⟩
        · rw [if_neg hlt] at HR
          rcases hne with b1 | ⟨rfl, rfl⟩
          · go_wp2
            go_ret3
            rw [HR.out]
            exact ⟨H4.out.1.alloc H4.out.1.size _, w4.heap.size, G3, cp3, rfl, Blk.new w4 92 _, H4.out.1.size, HA.out.1.alloc _, HA.out.2⟩
          · go_wp2
            go_ret3
            rw [HR.out]
            exact ⟨H4.out.1.alloc H4.out.1.size _, w4.heap.size, G3, cp3, rfl, Blk.new w4 92 _, H4.out.1.size, HA.out.1.alloc _, HA.out.2⟩
end Go.Proofs.Ytfcialmdediojaa
