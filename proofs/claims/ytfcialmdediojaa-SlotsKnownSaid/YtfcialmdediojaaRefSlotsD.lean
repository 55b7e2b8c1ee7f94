/-
  The reference's slots: Save.
-/
import Derived.Test.YtfcialmdediojaaRefSlotsC
namespace Go.Proofs.Ytfcialmdediojaa
set_option linter.unusedVariables false
set_option linter.unusedSimpArgs false
open Go.RowKit
set_option maxRecDepth 100000 in
set_option maxHeartbeats 1600000 in
theorem refslots_save {w : World} {col : Col} {c cs s db : Nat} {d : Dev} {first : Int} {turn which : Nat} (h : RefP w col c db d) (hs : RefSlo w s db first turn which) (hcs : col s = cs) (hc : c ≠ cs) (hc0 : c ≠ 0) (hcs0 : cs ≠ 0) (hp : Plain w col)
    (hf : -1000000 ≤ first ∧ first ≤ 1000000) (ht : turn ≤ 1152921504606846976) (hw : which ≤ 1) {A : Option Addr} {x : List UInt8} (xc : Nat) (hx : Sl w A (bytesV x)) (hA : SlCol col 0 A x.length) (hxl : x.length ≤ 140737488355328) :
    Calls Try.prog 41 #[.pointer (some ⟨s, 0, none⟩), .slice A x.length xc] w fun e w' =>
      e = .returned (.int .i64 (saveS d turn which first x).2) ∧ Ext (fun q => q = c ∨ q = cs) w col w' col ∧ RefP w' col c db (saveS d turn which first x).1.1 ∧ RefSlo w' s db first (saveS d turn which first x).1.2.1 (saveS d turn which first x).1.2.2 := by
  have H := Lib.hid (And.intro h hs)
  have HX := Lib.hid (And.intro hx hA)
  by_cases hbig : 100 < x.length
  · have e1 : saveS d turn which first x = ((d, turn, which), 2) := by unfold saveS; rw [if_pos hbig]
    rw [e1]
    have hbg : decide ((100 : Int) < (x.length : Int)) = true := by simp; omega
    clear h hs hx hA e1
    go_enter Try.func41, Try.ntmps41
    go_wp2
    go_ret
    exact ⟨rfl, Ext.refl hp, H.out.1, H.out.2⟩
  · have hbg : ¬ 100 < x.length := hbig
    have c2' : w.cell? ⟨s, 2, none⟩ = some (.int .i64 (turn : Int)) := hs.cell 2
    have c3' : w.cell? ⟨s, 3, none⟩ = some (.int .i64 (which : Int)) := hs.cell 3
    have HS8 : Hid (∀ W, Ext (· = c) w col W col → W.cell? ⟨s, 0, none⟩ = some (.pointer (some ⟨db, 0, none⟩)) ∧ W.cell? ⟨s, 1, none⟩ = some (.int .i64 first) ∧ W.cell? ⟨s, 2, none⟩ = some (.int .i64 (turn : Int))) := Lib.hid fun W hW => by
      have h1 : Blk W s _ _ := Blk.ext H.out.2 hW (by show ¬ col s = c; rw [hcs]; exact Ne.symm hc)
      exact ⟨h1.cell 0, h1.cell 1, h1.cell 2⟩
    have HWR : Hid (∀ W, Below w.heap.size w W → Calls Try.prog 59 #[.int .i64 ((turn : Int) + 1), .slice A x.length xc] W fun e w' => ∃ G' cp', e = .returned (.slice G' (slotB (turn + 1) x).length cp') ∧ Sl w' G' (bytesV (slotB (turn + 1) x)) ∧ (∀ ad, G' = some ad → W.heap.size ≤ ad.block) ∧ Below W.heap.size W w') := Lib.hid fun W hW => by
      refine (refslot_sector (HX.out.1.below hW (Nat.le_refl _)) xc (turn + 1) (by omega) (by omega)).mono ?_
      rintro e w1 ⟨v, rfl, hown, hbel⟩
      obtain ⟨G', cp', rfl, hG', -, -, hGb'⟩ := slice_of_own hown
      rw [bytesV_len]
      exact ⟨G', cp', rfl, hG', hGb', hbel⟩
    have HQ : Hid (saveS d turn which first x = (if (d.write (first + ((if turn = 0 then 0 else 1 - which : Nat) : Int)) (slotB (turn + 1) x)).2 ≠ 0 then (((d.write (first + ((if turn = 0 then 0 else 1 - which : Nat) : Int)) (slotB (turn + 1) x)).1, turn, which), (d.write (first + ((if turn = 0 then 0 else 1 - which : Nat) : Int)) (slotB (turn + 1) x)).2)
        else if ((d.write (first + ((if turn = 0 then 0 else 1 - which : Nat) : Int)) (slotB (turn + 1) x)).1.flush).2 ≠ 0 then ((((d.write (first + ((if turn = 0 then 0 else 1 - which : Nat) : Int)) (slotB (turn + 1) x)).1.flush).1, turn, which), ((d.write (first + ((if turn = 0 then 0 else 1 - which : Nat) : Int)) (slotB (turn + 1) x)).1.flush).2)
        else ((((d.write (first + ((if turn = 0 then 0 else 1 - which : Nat) : Int)) (slotB (turn + 1) x)).1.flush).1, turn + 1, (if turn = 0 then 0 else 1 - which)), 0))) := Lib.hid (by unfold saveS; rw [if_neg hbig])
    have hqv : (((if turn = 0 then 0 else 1 - which : Nat) : Nat) : Int) = if turn = 0 then 0 else 1 - (which : Int) := by split <;> omega
    generalize hqq : (if turn = 0 then 0 else 1 - which : Nat) = q at *
    have HQQ := Lib.hid hqq
    have hq1 : q ≤ 1 := by rw [← hqq]; split <;> omega
    have hiw : IntKind.i64.wrap (first + (q : Int)) = first + (q : Int) := by rw [IntKind.wrap_i64]; omega
    have hwt : IntKind.i64.wrap ((turn : Int) + 1) = (turn : Int) + 1 := by rw [IntKind.wrap_i64]; omega
    clear hqq h hs hx hA
    go_enter Try.func41, Try.ntmps41
    go_upto_region 6 with fail
    · obtain rfl : q = 0 := by rw [← HQQ.out, if_pos (by simp_all)]
      have e0 : first + ((0 : Nat) : Int) = first := by simp
      rw [e0] at HQ hiw
      clear hqv HQQ hq1 e0
      have HA1 : Hid (∀ w1, Below w.drew.heap.size w.drew w1 → RefP w1 col c db d) := Lib.hid fun w1 h1 => H.out.1.ext (C := fun _ => False) (.of_below (Below.undrew h1) hp) (fun h => h) (fun h => h)
      go_region_held3 (fun w' => w'.cell? ⟨s, 0, none⟩ = some (.pointer (some ⟨db, 0, none⟩)) ∧ w'.cell? ⟨s, 1, none⟩ = some (.int .i64 first) ∧ w'.cell? ⟨s, 2, none⟩ = some (.int .i64 (turn : Int)))
        (first | exact HS8.out _ (Ext.refl hp).drew | exact HS8.out _ (.of_below (Below.undrew hb1) hp) | exact HS8.out _ hexw)
        (first
          | ((go_at_call 59; refine (HWR.out _ ((Below.refl _ _).drew)).mono ?_; rintro e w1 ⟨G', cp', rfl, hG', hGb', hb1⟩))
          | ((go_at_call 49; refine (refdev_write (HA1.out _ hb1) (hp.size_le hb1.size) hc0 _ cp' hG' (fun _ ad ha => hp _ (hGb' ad ha))).mono ?_; rintro e w2 ⟨rfl, hex2, hdv2⟩; have hexw : Ext (· = c) w col w2 col := (Ext.of_below (Below.undrew hb1) hp).trans hex2)))
      clear HA1 hG' hGb' hb1 hex2
      generalize d.write (first) (slotB (turn + 1) x) = r at *
      have HX2 := Lib.hid (And.intro hexw hdv2)
      obtain ⟨c0, c1, c2⟩ := HS8.out _ hexw
      clear hexw hdv2
      by_cases hr : r.2 = 0
      · rw [hr] at HQ ⊢
        rw [if_neg (by simp)] at HQ
        go_wp2_with fail
        refine (refdev_flush HX2.out.2 HX2.out.1.plain hc0).mono ?_
        rintro e w3 ⟨rfl, hex3, hdv3⟩
        have HX3 := Lib.hid (And.intro (HX2.out.1.trans hex3) hdv3)
        obtain ⟨d0, d1, d2⟩ := HS8.out _ (HX2.out.1.trans hex3)
        clear hex3 hdv3 c0 c1 c2
        generalize r.1.flush = fl at *
        have hsb3 : Blk w3 s _ _ := Blk.ext H.out.2 HX3.out.1 (by show ¬ col s = c; rw [hcs]; exact Ne.symm hc)
        have HE : Hid (Ext (fun q => q = c ∨ q = cs) w col w3 col) := Lib.hid (HX3.out.1.mono (fun _ h => .inl h))
        by_cases hf2 : fl.2 = 0
        · rw [hf2] at HQ ⊢
          rw [if_neg (by simp)] at HQ
          have s2 : w3.cell? ⟨s, 3, none⟩ = some (.int .i64 (which : Int)) := hsb3.cell 3
          have s3 : w3.cell? ⟨s, 2, none⟩ = some (.int .i64 (turn : Int)) := hsb3.cell 2
          have z2 := hsb3.frozen 2
          have z3 := hsb3.frozen 3
          have HB3 := Lib.hid hsb3
          clear hsb3
          go_wp2
          go_ret
          rw [HQ.out]
          have hb5 := (HB3.out.set_ 2 (.int .i64 ((turn : Int) + 1))).set_ 3 (.int .i64 (0))
          have hoth : ∀ k, k ≠ s → ((w3.setCell ⟨s, 2, none⟩ (.int .i64 ((turn : Int) + 1))).setCell ⟨s, 3, none⟩ (.int .i64 (0))).heap[k]? = w3.heap[k]? := fun k hk => (Below.heap_setCell _ _ _ _ hk).trans (Below.heap_setCell _ _ _ _ hk)
          have he3 : Ext (· = cs) w3 col ((w3.setCell ⟨s, 2, none⟩ (.int .i64 ((turn : Int) + 1))).setCell ⟨s, 3, none⟩ (.int .i64 (0))) col := ((Ext.refl HX3.out.1.plain).setCell _ _ (.inl hcs)).setCell _ _ (.inl hcs)
          exact ⟨rfl, HE.out.trans (he3.mono (fun _ h => .inr h)), HX3.out.2.ext he3 hc (Ne.symm hcs0), by simpa [RefSlo] using hb5⟩
        · rw [if_pos hf2] at HQ
          have hb : (fl.2 != 0) = true := by rw [bne_iff_ne]; exact hf2
          have HB3 := Lib.hid hsb3
          clear hsb3 hf2
          obtain ⟨fd, fe⟩ := fl
          simp only at hb
          go_wp2
          go_ret
          rw [HQ.out]
          exact ⟨rfl, HE.out, HX3.out.2, HB3.out⟩
      · rw [if_pos hr] at HQ
        have hb : (r.2 != 0) = true := by rw [bne_iff_ne]; exact hr
        have hsb3 : Blk w2 s _ _ := Blk.ext H.out.2 HX2.out.1 (by show ¬ col s = c; rw [hcs]; exact Ne.symm hc)
        have HE : Hid (Ext (fun q => q = c ∨ q = cs) w col w2 col) := Lib.hid (HX2.out.1.mono (fun _ h => .inl h))
        have HB3 := Lib.hid hsb3
        clear hsb3 hr
        obtain ⟨rd, re⟩ := r
        simp only at hb
        go_wp2
        go_ret
        rw [HQ.out]
        exact ⟨rfl, HE.out, HX2.out.2, HB3.out⟩
    · have hne : turn ≠ 0 := by intro e; subst e; simp_all
      rw [if_neg hne] at hqv
      have e0 : first + (q : Int) = first + (1 - (which : Int)) := by rw [hqv]
      rw [e0] at HQ hiw
      have HQV := Lib.hid hqv
      clear hqv
      have HA1 : Hid (∀ w1, Below w.drew.heap.size w.drew w1 → RefP w1 col c db d) := Lib.hid fun w1 h1 => H.out.1.ext (C := fun _ => False) (.of_below (Below.undrew h1) hp) (fun h => h) (fun h => h)
      go_region_held3 (fun w' => w'.cell? ⟨s, 0, none⟩ = some (.pointer (some ⟨db, 0, none⟩)) ∧ w'.cell? ⟨s, 1, none⟩ = some (.int .i64 first) ∧ w'.cell? ⟨s, 2, none⟩ = some (.int .i64 (turn : Int)))
        (first | exact HS8.out _ (Ext.refl hp).drew | exact HS8.out _ (.of_below (Below.undrew hb1) hp) | exact HS8.out _ hexw)
        (first
          | ((go_at_call 59; refine (HWR.out _ ((Below.refl _ _).drew)).mono ?_; rintro e w1 ⟨G', cp', rfl, hG', hGb', hb1⟩))
          | ((go_at_call 49; refine (refdev_write (HA1.out _ hb1) (hp.size_le hb1.size) hc0 _ cp' hG' (fun _ ad ha => hp _ (hGb' ad ha))).mono ?_; rintro e w2 ⟨rfl, hex2, hdv2⟩; have hexw : Ext (· = c) w col w2 col := (Ext.of_below (Below.undrew hb1) hp).trans hex2)))
      clear HA1 hG' hGb' hb1 hex2
      generalize d.write (first + (1 - (which : Int))) (slotB (turn + 1) x) = r at *
      have HX2 := Lib.hid (And.intro hexw hdv2)
      obtain ⟨c0, c1, c2⟩ := HS8.out _ hexw
      clear hexw hdv2
      by_cases hr : r.2 = 0
      · rw [hr] at HQ ⊢
        rw [if_neg (by simp)] at HQ
        go_wp2_with fail
        refine (refdev_flush HX2.out.2 HX2.out.1.plain hc0).mono ?_
        rintro e w3 ⟨rfl, hex3, hdv3⟩
        have HX3 := Lib.hid (And.intro (HX2.out.1.trans hex3) hdv3)
        obtain ⟨d0, d1, d2⟩ := HS8.out _ (HX2.out.1.trans hex3)
        clear hex3 hdv3 c0 c1 c2
        generalize r.1.flush = fl at *
        have hsb3 : Blk w3 s _ _ := Blk.ext H.out.2 HX3.out.1 (by show ¬ col s = c; rw [hcs]; exact Ne.symm hc)
        have HE : Hid (Ext (fun q => q = c ∨ q = cs) w col w3 col) := Lib.hid (HX3.out.1.mono (fun _ h => .inl h))
        by_cases hf2 : fl.2 = 0
        · rw [hf2] at HQ ⊢
          rw [if_neg (by simp)] at HQ
          have s2 : w3.cell? ⟨s, 3, none⟩ = some (.int .i64 (which : Int)) := hsb3.cell 3
          have s3 : w3.cell? ⟨s, 2, none⟩ = some (.int .i64 (turn : Int)) := hsb3.cell 2
          have z2 := hsb3.frozen 2
          have z3 := hsb3.frozen 3
          have HB3 := Lib.hid hsb3
          clear hsb3
          go_wp2
          go_ret
          rw [HQ.out]
          have hb5 := (HB3.out.set_ 2 (.int .i64 ((turn : Int) + 1))).set_ 3 (.int .i64 (1 - (which : Int)))
          have hoth : ∀ k, k ≠ s → ((w3.setCell ⟨s, 2, none⟩ (.int .i64 ((turn : Int) + 1))).setCell ⟨s, 3, none⟩ (.int .i64 (1 - (which : Int)))).heap[k]? = w3.heap[k]? := fun k hk => (Below.heap_setCell _ _ _ _ hk).trans (Below.heap_setCell _ _ _ _ hk)
          have he3 : Ext (· = cs) w3 col ((w3.setCell ⟨s, 2, none⟩ (.int .i64 ((turn : Int) + 1))).setCell ⟨s, 3, none⟩ (.int .i64 (1 - (which : Int)))) col := ((Ext.refl HX3.out.1.plain).setCell _ _ (.inl hcs)).setCell _ _ (.inl hcs)
          exact ⟨rfl, HE.out.trans (he3.mono (fun _ h => .inr h)), HX3.out.2.ext he3 hc (Ne.symm hcs0), by simpa [RefSlo, HQV.out] using hb5⟩
        · rw [if_pos hf2] at HQ
          have hb : (fl.2 != 0) = true := by rw [bne_iff_ne]; exact hf2
          have HB3 := Lib.hid hsb3
          clear hsb3 hf2
          obtain ⟨fd, fe⟩ := fl
          simp only at hb
          go_wp2
          go_ret
          rw [HQ.out]
          exact ⟨rfl, HE.out, HX3.out.2, HB3.out⟩
      · rw [if_pos hr] at HQ
        have hb : (r.2 != 0) = true := by rw [bne_iff_ne]; exact hr
        have hsb3 : Blk w2 s _ _ := Blk.ext H.out.2 HX2.out.1 (by show ¬ col s = c; rw [hcs]; exact Ne.symm hc)
        have HE : Hid (Ext (fun q => q = c ∨ q = cs) w col w2 col) := Lib.hid (HX2.out.1.mono (fun _ h => .inl h))
        have HB3 := Lib.hid hsb3
        clear hsb3 hr
        obtain ⟨rd, re⟩ := r
        simp only at hb
        go_wp2
        go_ret
        rw [HQ.out]
        exact ⟨rfl, HE.out, HX2.out.2, HB3.out⟩
end Go.Proofs.Ytfcialmdediojaa
