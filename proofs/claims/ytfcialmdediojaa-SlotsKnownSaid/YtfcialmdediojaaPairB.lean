/-
  The law's pair: tells.
-/
import Derived.Test.YtfcialmdediojaaPair
namespace Go.Proofs.Ytfcialmdediojaa
set_option linter.unusedVariables false
set_option linter.unusedSimpArgs false
open Go.RowKit
set_option maxRecDepth 100000 in
set_option maxHeartbeats 1600000 in
theorem pair_tells {w : World} {col : Col} {p : Nat} {first : Int} {d : Dev} {st : Option (Nat × Nat)} (h : PairP w col p first d st) (hp : Plain w col) :
    Calls Try.prog 22 #[.pointer (some ⟨p, 0, none⟩)] w fun e w' => e = .returned (.bool true) ∧ Below w.heap.size w w' := by
  obtain ⟨db, du, vs, vm, hb, hd, hu, hst, hc5⟩ := h
  have c0 : w.cell? ⟨p, 0, none⟩ = some (.pointer (some ⟨db, 0, none⟩)) := hb.cell 0
  have c1 : w.cell? ⟨p, 1, none⟩ = some vs := hb.cell 1
  have c2 : w.cell? ⟨p, 2, none⟩ = some (.pointer (some ⟨du, 0, none⟩)) := hb.cell 2
  have c3 : w.cell? ⟨p, 3, none⟩ = some vm := hb.cell 3
  have H := Lib.hid (And.intro hb (And.intro hd hu))
  clear hb hd hu
  cases st with
  | none =>
    obtain ⟨rfl, rfl⟩ := hst
    go_enter Try.func22, Try.ntmps22
    go_upto_region 1 with fail
    go_cut [27] (fun v wx => v = .bool false ∧ Drawn w wx)
    case first =>
      go_quiet (fail)
      go_wp2_with fail
      go_meet
      exact ⟨rfl, _, rfl⟩
    case rest =>
      obtain ⟨rfl, hdr⟩ := hcut
      have hbw := hdr.below
      have HBW := Lib.hid hbw
      clear hdr hbw
      go_wp2
      go_loopw [3] (fun y wr => ∃ i : Nat, i ≤ d.l.length ∧ y = .int .i64 (i : Int) ∧ Below w.heap.size w wr) (fun y _ => d.l.length - (intOf y).toNat)
      case atStart => exact ⟨0, Nat.zero_le _, rfl, HBW.out⟩
      case round =>
        obtain ⟨i, hi, rfl, hbr⟩ := hrel
        have HBR := Lib.hid hbr
        have hp0 := H.out.1.below hbr H.out.1.lt
        have hdv : DevP wr col 1 db d := H.out.2.1.ext (C := fun _ => False) (.of_below hbr hp) (fun h => h)
        have hrv : RefP wr col 3 du d := H.out.2.2.ext (C := fun _ => False) (.of_below hbr hp) (fun h => h) (fun h => h)
        have HD := Lib.hid (And.intro hdv hrv)
        have HP0 := Lib.hid hp0
        have r0 : wr.cell? ⟨p, 0, none⟩ = some (.pointer (some ⟨db, 0, none⟩)) := hp0.cell 0
        have r2 : wr.cell? ⟨p, 2, none⟩ = some (.pointer (some ⟨du, 0, none⟩)) := hp0.cell 2
        obtain ⟨rok, bl, cap, cs, kA, kc, hrb⟩ := hrv
        have u0 : wr.cell? ⟨du, 0, none⟩ = some (.slice (some ⟨bl, 0, none⟩) d.l.length cap) := hrb.c0
        have hfew := rok.few
        clear hbr hp0 hdv hrb c0 c1 c2 c3
        by_cases hlt : i < d.l.length
        · go_wp2_with fail
          refine (sector_read HD.out.1 (i : Int)).mono ?_
          rintro e w3 ⟨v, rfl, hown, hb3⟩
          obtain ⟨G3, cp3, rfl, hG3, -, -, -⟩ := slice_of_own hown
          have H3 := Lib.hid (And.intro hb3 hG3)
          have q2 : w3.cell? ⟨p, 2, none⟩ = some (.pointer (some ⟨du, 0, none⟩)) := (HP0.out.below hb3 HP0.out.lt).cell 2
          clear hown hb3 hG3
          go_wp2_with fail
          refine (refdev_read (HD.out.2.ext (C := fun _ => False) (.of_below H3.out.1 (hp.size_le HBR.out.size)) (fun h => h) (fun h => h)) (i : Int)).mono ?_
          rintro e w4 ⟨v, rfl, hown, hb4⟩
          obtain ⟨G4, cp4, rfl, hG4, -, -, -⟩ := slice_of_own hown
          have H4 := Lib.hid (And.intro (H3.out.2.below hb4 (Nat.le_refl _)) (And.intro hG4 (Below.trans' HBR.out (Below.trans' H3.out.1 hb4 H3.out.1.size) HBR.out.size)))
          have hrl : (d.read (i : Int)).1.length ≤ 140737488355328 := by
            by_cases he : (d.read (i : Int)).2 = 0
            · rw [read_len rok he]; omega
            · unfold Dev.read at he ⊢; split
              · rename_i h; rw [if_pos h] at he; exact absurd rfl he
              · simp
          have hne : ((d.read (i : Int)).2 != (d.read (i : Int)).2) = false := by simp
          clear hown hb4 hG4
          generalize (d.read (i : Int)).1 = x at *
          generalize (d.read (i : Int)).2 = er at *
          go_wp2_with fail
          refine (eqBytes H4.out.1 H4.out.2.1 cp3 cp4 hrl).mono ?_
          rintro e w5 ⟨rfl, hdr5⟩
          rw [show (x == x) = true from by simp]
          have H5 := Lib.hid (Below.drawn H4.out.2.2 hdr5)
          clear hdr5
          go_wp2
          go_roundw
          case rel => exact ⟨i + 1, by omega, by go_num, H5.out⟩
          case measure => simp [intOf]; omega
        · obtain rfl : i = d.l.length := by omega
          go_wp2
          go_ret
          exact ⟨rfl, HBR.out⟩
  | some a =>
    obtain ⟨t, q⟩ := a
    obtain ⟨s, m, rfl, rfl, hs, hm, cs2, cm4⟩ := hst
    have hm' : Blk w m _ _ := hm
    have m2 : w.cell? ⟨m, 2, none⟩ = some (.int .i64 (t : Int)) := hm'.cell 2
    have HSM := Lib.hid hs
    clear hs hm hm'
    go_enter Try.func22, Try.ntmps22
    go_upto_region 1 with fail
    go_cut [27] (fun v wx => v = .bool false ∧ Drawn w wx)
    case first =>
      go_quiet ((go_at_call 5; refine Calls.quiet_of_same ((slots_turn (s := s) (db := db) (first := first) (turn := t) (which := q) ?_).mono (fun _ _ h => ⟨h.1, h.2.symm⟩)); exact HSM.out))
      go_wp2_with fail
      go_meet
      exact ⟨by simp, _, rfl⟩
    case rest =>
      obtain ⟨rfl, hdr⟩ := hcut
      have hbw := hdr.below
      have HBW := Lib.hid hbw
      clear hdr hbw
      go_wp2
      go_loopw [3] (fun y wr => ∃ i : Nat, i ≤ d.l.length ∧ y = .int .i64 (i : Int) ∧ Below w.heap.size w wr) (fun y _ => d.l.length - (intOf y).toNat)
      case atStart => exact ⟨0, Nat.zero_le _, rfl, HBW.out⟩
      case round =>
        obtain ⟨i, hi, rfl, hbr⟩ := hrel
        have HBR := Lib.hid hbr
        have hp0 := H.out.1.below hbr H.out.1.lt
        have hdv : DevP wr col 1 db d := H.out.2.1.ext (C := fun _ => False) (.of_below hbr hp) (fun h => h)
        have hrv : RefP wr col 3 du d := H.out.2.2.ext (C := fun _ => False) (.of_below hbr hp) (fun h => h) (fun h => h)
        have HD := Lib.hid (And.intro hdv hrv)
        have HP0 := Lib.hid hp0
        have r0 : wr.cell? ⟨p, 0, none⟩ = some (.pointer (some ⟨db, 0, none⟩)) := hp0.cell 0
        have r2 : wr.cell? ⟨p, 2, none⟩ = some (.pointer (some ⟨du, 0, none⟩)) := hp0.cell 2
        obtain ⟨rok, bl, cap, cs, kA, kc, hrb⟩ := hrv
        have u0 : wr.cell? ⟨du, 0, none⟩ = some (.slice (some ⟨bl, 0, none⟩) d.l.length cap) := hrb.c0
        have hfew := rok.few
        clear hbr hp0 hdv hrb c0 c1 c2 c3
        by_cases hlt : i < d.l.length
        · go_wp2_with fail
          refine (sector_read HD.out.1 (i : Int)).mono ?_
          rintro e w3 ⟨v, rfl, hown, hb3⟩
          obtain ⟨G3, cp3, rfl, hG3, -, -, -⟩ := slice_of_own hown
          have H3 := Lib.hid (And.intro hb3 hG3)
          have q2 : w3.cell? ⟨p, 2, none⟩ = some (.pointer (some ⟨du, 0, none⟩)) := (HP0.out.below hb3 HP0.out.lt).cell 2
          clear hown hb3 hG3
          go_wp2_with fail
          refine (refdev_read (HD.out.2.ext (C := fun _ => False) (.of_below H3.out.1 (hp.size_le HBR.out.size)) (fun h => h) (fun h => h)) (i : Int)).mono ?_
          rintro e w4 ⟨v, rfl, hown, hb4⟩
          obtain ⟨G4, cp4, rfl, hG4, -, -, -⟩ := slice_of_own hown
          have H4 := Lib.hid (And.intro (H3.out.2.below hb4 (Nat.le_refl _)) (And.intro hG4 (Below.trans' HBR.out (Below.trans' H3.out.1 hb4 H3.out.1.size) HBR.out.size)))
          have hrl : (d.read (i : Int)).1.length ≤ 140737488355328 := by
            by_cases he : (d.read (i : Int)).2 = 0
            · rw [read_len rok he]; omega
            · unfold Dev.read at he ⊢; split
              · rename_i h; rw [if_pos h] at he; exact absurd rfl he
              · simp
          have hne : ((d.read (i : Int)).2 != (d.read (i : Int)).2) = false := by simp
          clear hown hb4 hG4
          generalize (d.read (i : Int)).1 = x at *
          generalize (d.read (i : Int)).2 = er at *
          go_wp2_with fail
          refine (eqBytes H4.out.1 H4.out.2.1 cp3 cp4 hrl).mono ?_
          rintro e w5 ⟨rfl, hdr5⟩
          rw [show (x == x) = true from by simp]
          have H5 := Lib.hid (Below.drawn H4.out.2.2 hdr5)
          clear hdr5
          go_wp2
          go_roundw
          case rel => exact ⟨i + 1, by omega, by go_num, H5.out⟩
          case measure => simp [intOf]; omega
        · obtain rfl : i = d.l.length := by omega
          go_wp2
          go_ret
          exact ⟨rfl, HBR.out⟩
end Go.Proofs.Ytfcialmdediojaa
