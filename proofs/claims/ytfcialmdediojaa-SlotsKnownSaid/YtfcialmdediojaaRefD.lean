/-
  The reference's device: Write, Crash.
-/
import Derived.Test.YtfcialmdediojaaRefC
namespace Go.Proofs.Ytfcialmdediojaa
set_option linter.unusedVariables false
set_option linter.unusedSimpArgs false
open Go.RowKit
theorem modify_eq_set {l : List Sec} {n : Nat} {s : Sec} (h : l[n]? = some s) (f : Sec → Sec) : l.modify n f = l.set n (f s) := by
  apply List.ext_getElem?
  intro j
  have hn := (List.getElem?_eq_some_iff.1 h).1
  rw [List.getElem?_modify, List.getElem?_set]
  by_cases e : n = j
  · subst e; rw [h]; simp [hn]
  · simp [e]
set_option maxRecDepth 100000 in
set_option maxHeartbeats 1600000 in
theorem refdev_write {w : World} {col : Col} {c b : Nat} {d : Dev} (h : RefP w col c b d) (hp : Plain w col) (hc0 : c ≠ 0) (i : Int) {A : Option Addr} {l : List UInt8} (lcap : Nat) (hl : Sl w A (bytesV l)) (hA : SlCol col 0 A l.length) :
    Calls Try.prog 49 #[.pointer (some ⟨b, 0, none⟩), .int .i64 i, .slice A l.length lcap] w fun e w' =>
      e = .returned (.int .i64 (d.write i l).2) ∧ Ext (· = c) w col w' col ∧ RefP w' col c b (d.write i l).1 := by
  have h0 := h
  obtain ⟨ok, bl, cap, cs, kA, kc, h⟩ := h
  have c5 := h.c5
  have c0 := h.c0
  have c6 := h.c6
  have H := Lib.hid h
  have HF0 : Hid (Ext (· = c) w col w col ∧ RefP w col c b d) := ⟨Ext.refl hp, h0⟩
  have HOK := Lib.hid (ok.write i l)
  have HLN := Lib.hid (And.intro hl hA)
  clear h h0 hl hA
  cases hd : d.dead <;> rw [hd] at c5
  case true =>
    have e1 : d.write i l = (d, 100) := by simp [Dev.write, Dev.at_, hd]
    rw [e1]
    clear e1
    go_enter Try.func49, Try.ntmps49
    go_wp2
    go_ret
    exact ⟨rfl, HF0.out⟩
  by_cases hneg : i < 0
  · have e1 : d.write i l = (d, 9) := by simp [Dev.write, Dev.at_, hd, hneg]
    rw [e1]
    clear e1
    go_enter Try.func49, Try.ntmps49
    go_wp2
    go_ret
    exact ⟨rfl, HF0.out⟩
  by_cases hge : (d.l.length : Int) ≤ i
  · have e1 : d.write i l = (d, 9) := by simp [Dev.write, Dev.at_, hd, hge]
    rw [e1]
    clear e1
    go_enter Try.func49, Try.ntmps49
    go_wp2
    go_ret
    exact ⟨rfl, HF0.out⟩
  obtain ⟨n, rfl⟩ : ∃ n : Nat, i = (n : Int) := ⟨i.toNat, by omega⟩
  have hn : n < d.l.length := by omega
  have hat : d.at_ (n : Int) = 0 := by simp [Dev.at_, hd, hneg, hge]
  have i0 : (0 : Int) ≤ (n : Int) := by omega
  have i1 : (n : Int) < (d.l.length : Int) := by omega
  by_cases hlen : l.length = 128
  case neg =>
    have e1 : d.write (n : Int) l = (d, 2) := by simp [Dev.write, hat, hlen]
    rw [e1]
    have hlen2 : ((l.length : Int) != 128) = true := by rw [bne_iff_ne]; omega
    clear e1 hlen hat hneg hge
    go_enter Try.func49, Try.ntmps49
    go_wp2
    go_ret
    exact ⟨rfl, HF0.out⟩
  by_cases htil : d.til = 0
  · have e1 : d.write (n : Int) l = (d, 101) := by simp [Dev.write, hat, hlen, Dev.worked, htil]
    rw [e1]
    have hlen2 : ((l.length : Int) != 128) = false := by simp [hlen]
    have hb : (d.til == 0) = true := by rw [beq_iff_eq]; exact htil
    clear e1 hlen hat hneg hge htil
    go_enter Try.func49, Try.ntmps49
    go_wp2
    go_ret
    exact ⟨rfl, HF0.out⟩
  have hlen2 : ((l.length : Int) != 128) = false := by simp [hlen]
  have hb : (d.til == 0) = false := by rw [beq_eq_false_iff_ne]; exact htil
  have ht := ok.til
  have hle := ok.left
  have hs : d.l[n]? = some d.l[n] := List.getElem?_eq_getElem hn
  have HL1 := Lib.hid (put_all ok hlen n)
  have hwr : d.write (n : Int) l = d.worked (fun x => x.set n (Sec.put l d.l[n])) id := by
    simp only [Dev.write, hat, hlen]
    simp only [Int.toNat_natCast]
    unfold Dev.worked
    simp only [modify_eq_set hs]
    rfl
  rw [modify_eq_set hs] at HL1
  obtain ⟨A1, k1, A2, k2, r0, r1, r2, s1, s2, l1, l2⟩ := H.out.at' rfl hs
  generalize d.l[n] = s at *
  have q0 : w.cell? ⟨bl, n * 3, none⟩ = some (.slice A1 s.now.length k1) := by rw [H.out.row.cell]; exact r0
  have HLEN := Lib.hid hlen
  have HTIL := Lib.hid htil
  have HWR := Lib.hid hwr
  have HIN := Lib.hid (And.intro ok.keep (And.intro ok.few hs))
  have HS : Hid (∀ W, Below w.heap.size w W → W.cell? ⟨b, 0, none⟩ = some (.slice (some ⟨bl, 0, none⟩) d.l.length cap) ∧ Sl W A (bytesV l)) := Lib.hid fun W hW => ⟨(hW.cell H.out.hd.lt).trans H.out.c0, HLN.out.1.below hW (Nat.le_refl _)⟩
  have HT : Hid (∀ W v, Below w.heap.size w W → (W.setCell ⟨bl, n * 3, none⟩ v).cell? ⟨b, 0, none⟩ = some (.slice (some ⟨bl, 0, none⟩) d.l.length cap) ∧ Sl (W.setCell ⟨bl, n * 3, none⟩ v) A (bytesV l)) := Lib.hid fun W v hW =>
    ⟨(World.cell?_setCell_other W _ _ v (fun e => H.out.hne (by injection e with e1; exact e1.symm))).trans (HS.out W hW).1, (HS.out W hW).2.setCell v (fun ad ha hn e => hc0 (by
      have := HLN.out.2 (by simpa [bytesV] using hn) ad ha
      rw [e] at this
      exact H.out.cbl.symm.trans this))⟩
  have HQ : Hid (∀ W, Below w.heap.size w W → W.cell? ⟨bl, n * 3, none⟩ = some (.slice A1 s.now.length k1) ∧ W.frozen? ⟨bl, n * 3, none⟩ = false) := Lib.hid fun W hW => H.out.rowCell q0 hW
  rw [hwr] at HOK ⊢
  clear r0 r1 r2 s1 s2 l1 l2 hlen hat hneg hge htil hs hwr ok
  go_enter Try.func49, Try.ntmps49
  go_wp2_with fail
  go_region_held3 (fun w' => w'.cell? ⟨b, 0, none⟩ = some (.slice (some ⟨bl, 0, none⟩) d.l.length cap) ∧ Sl w' A (bytesV l))
    (first | exact HS.out _ ((Below.refl _ _).drew) | exact HS.out _ (Below.undrew hbel) | exact HT.out _ _ (Below.undrew hbel)) ((go_at_call 40; refine (copyBytes_sl (HS.out _ ((Below.refl _ _).drew)).2 _ (by rw [HLEN.out]; omega)).mono ?_; rintro e w1 ⟨G, cp, rfl, hG, hGb, hbel⟩; obtain ⟨hq0, hz0⟩ := HQ.out _ (Below.undrew hbel)))
  obtain ⟨cs3, h3⟩ := H.out.put_now' hc0 hp rfl HIN.out.2.2 (Below.undrew hbel) cp hG hGb
  have he3 : Ext (· = c) w col (w1.setCell ⟨bl, n * 3, none⟩ (.slice G l.length cp)) col := ((Ext.refl hp).below (Below.undrew hbel)).setCell _ _ (.inl H.out.cbl)
  have H3 := Lib.hid h3
  have HE3 := Lib.hid he3
  clear he3 h3 hG hGb hbel hq0 hz0 HS HT HQ q0 c0 c5 c6
  generalize w1.setCell ⟨bl, n * 3, none⟩ (.slice G l.length cp) = w4 at *
  have hL4 : (d.l.set n { s with now := l })[n]? = some { s with now := l } := by rw [List.getElem?_set_self hn]
  have p0 : w4.cell? ⟨b, 0, none⟩ = some (.slice (some ⟨bl, 0, none⟩) d.l.length cap) := by have := H3.out.c0; rwa [show ({ d with l := d.l.set n { s with now := l } } : Dev).l.length = d.l.length from List.length_set ..] at this
  obtain ⟨A1'', k1'', A2'', k2'', x0, x1, x2, -⟩ := H3.out.at' rfl hL4
  have p2 : w4.cell? ⟨bl, n * 3 + 2, none⟩ = some (.bool s.wr) := by rw [H3.out.row.cell]; exact x2
  have z2 := H3.out.row.frozen (n * 3 + 2)
  have HL4 := Lib.hid hL4
  clear x0 x1 x2 hL4
  go_wp2_with fail
  obtain ⟨cs5, h5⟩ := H3.out.put_wr' hc0 rfl HL4.out true
  have he5 : Ext (· = c) w col (w4.setCell ⟨bl, n * 3 + 2, none⟩ (.bool true)) col := HE3.out.setCell _ _ (.inl H3.out.cbl)
  rw [List.set_set] at h5
  clear p0 p2 z2
  generalize w4.setCell ⟨bl, n * 3 + 2, none⟩ (.bool true) = w5 at *
  refine (refdev_fails h5 he5.plain hc0 hle).mono ?_
  rintro e w6 ⟨rfl, he6, h6⟩
  have HE6 := Lib.hid (he5.trans he6)
  have H6 := Lib.hid h6
  clear he5 he6 h5 h6
  by_cases hl0 : d.left = 0
  · rw [show (d.left == 0) = true from by rw [beq_iff_eq]; exact hl0]
    have hm : max (d.left - 1) (-1) = -1 := by omega
    rw [hm] at H6
    have hw2 : d.worked (fun x => x.set n (Sec.put l s)) id = (({ d with l := d.l.set n (Sec.put l s) } : Dev).gone d.keep, 100) := by simp [Dev.worked, HTIL.out, hl0]
    have HW2 := Lib.hid hw2
    have p2 := H6.out.c2
    clear hw2 hl0 hm
    go_wp2_with fail
    refine (refdev_gone H6.out HE6.out.plain hc0 (fun t ht => ⟨(HL1.out.2 t ht).1, (HL1.out.2 t ht).2.1⟩) (by rw [List.length_set]; exact HIN.out.2.1) d.keep kA kc H6.out.keep H6.out.kcol HIN.out.1).mono ?_
    rintro e w7 ⟨rfl, he7, cs7, h7⟩
    have HF : Hid (Ext (· = c) w col w7 col ∧ RefP w7 col c b (d.worked (fun x => x.set n (Sec.put l s)) id).1) := by
      refine ⟨HE6.out.trans he7, HOK.out, bl, cap, cs7, kA, kc, ?_⟩
      rw [HW2.out]; exact h7
    clear he7 h7 p2
    go_wp2
    go_ret
    exact ⟨by rw [HW2.out]; rfl, HF.out⟩
  · rw [show (d.left == 0) = false from by rw [beq_eq_false_iff_ne]; exact hl0]
    have hw2 : d.worked (fun x => x.set n (Sec.put l s)) id = ({ d with l := d.l.set n (Sec.put l s), done := wrapI (d.done + 1), left := max (d.left - 1) (-1), til := max (d.til - 1) (-1) }, 0) := by simp [Dev.worked, HTIL.out, hl0]
    have HW2 := Lib.hid hw2
    clear hw2 hl0
    go_wp2_with fail
    refine (refdev_done H6.out HE6.out.plain hc0 HTIL.out ht).mono ?_
    rintro e w7 ⟨rfl, he7, h7⟩
    have HF : Hid (Ext (· = c) w col w7 col ∧ RefP w7 col c b (d.worked (fun x => x.set n (Sec.put l s)) id).1) := by
      refine ⟨HE6.out.trans he7, HOK.out, bl, cap, cs5, kA, kc, ?_⟩
      rw [HW2.out]; exact h7
    clear he7 h7
    go_wp2
    go_ret
    exact ⟨by rw [HW2.out]; rfl, HF.out⟩
set_option maxRecDepth 100000 in
theorem refdev_crash {w : World} {col : Col} {c b : Nat} {d : Dev} (h : RefP w col c b d) (hp : Plain w col) (hc0 : c ≠ 0) {A : Option Addr} {ks : List Int} (kcap : Nat) (hks : Sl w A (ks.map intV)) (hA : SlCol col 0 A ks.length) (hin : ∀ x ∈ ks, -9223372036854775808 ≤ x ∧ x ≤ 9223372036854775807) :
    Calls Try.prog 42 #[.pointer (some ⟨b, 0, none⟩), .slice A ks.length kcap] w fun e w' =>
      e = .returned (.int .i64 (d.crash ks).2) ∧ Ext (· = c) w col w' col ∧ RefP w' col c b (d.crash ks).1 := by
  have h0 := h
  obtain ⟨ok, bl, cap, cs, kA, kc, h⟩ := h
  have c5 := h.c5
  have H := Lib.hid h
  have HOK := Lib.hid ok
  clear h ok
  cases hd : d.dead <;> rw [hd] at c5
  · have e1 : d.crash ks = (d.gone ks, 0) := by simp [Dev.crash, hd]
    rw [e1]
    clear e1
    go_enter Try.func42, Try.ntmps42
    go_wp2_with fail
    refine (refdev_gone H.out hp hc0 (fun t ht => ⟨HOK.out.now t ht, HOK.out.sure t ht⟩) HOK.out.few ks A kcap hks hA hin).mono ?_
    rintro e w7 ⟨rfl, he7, cs7, h7⟩
    have HF : Hid (Ext (· = c) w col w7 col ∧ RefP w7 col c b (d.gone ks)) := ⟨he7, HOK.out.gone ks, bl, cap, cs7, kA, kc, h7⟩
    clear he7 h7
    go_wp2
    go_ret
    exact ⟨rfl, HF.out⟩
  · have e1 : d.crash ks = (d, 100) := by simp [Dev.crash, hd]
    rw [e1]
    clear e1
    go_enter Try.func42, Try.ntmps42
    go_wp2
    go_ret
    exact ⟨rfl, Ext.refl hp, h0⟩
end Go.Proofs.Ytfcialmdediojaa
