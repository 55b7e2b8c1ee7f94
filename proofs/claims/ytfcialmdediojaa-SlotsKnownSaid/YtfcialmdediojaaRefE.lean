/-
  The reference's device: Flush.
-/
import Derived.Test.YtfcialmdediojaaRefD
namespace Go.Proofs.Ytfcialmdediojaa
set_option linter.unusedVariables false
set_option linter.unusedSimpArgs false
open Go.RowKit
def flMid (i : Nat) (l : List Sec) : List Sec := (l.take i).map Sec.flush ++ l.drop i
theorem flMid_len (i : Nat) (l : List Sec) : (flMid i l).length = l.length := by
  unfold flMid
  rw [List.length_append, List.length_map, ← List.length_append, List.take_append_drop]
theorem flMid_at {i : Nat} {l : List Sec} (h : i < l.length) : (flMid i l)[i]? = some l[i] := by
  unfold flMid
  have hlen : ((l.take i).map Sec.flush).length = i := by rw [List.length_map, List.length_take]; omega
  rw [List.getElem?_append_right (by omega), hlen, Nat.sub_self, List.getElem?_drop, Nat.add_zero, List.getElem?_eq_getElem h]
theorem flMid_step {i : Nat} {l : List Sec} (h : i < l.length) : (flMid i l).set i (Sec.flush l[i]) = flMid (i + 1) l := by
  have hlen : ((l.take i).map Sec.flush).length = i := by rw [List.length_map, List.length_take]; omega
  unfold flMid
  rw [List.set_append_right _ _ (by omega), hlen, Nat.sub_self, List.take_succ_eq_append_getElem h, List.map_append, List.append_assoc, List.drop_eq_getElem_cons h, List.set_cons_zero]
  rfl
theorem flMid_all (l : List Sec) : flMid l.length l = l.map Sec.flush := by simp [flMid]
def FlRel (w : World) (col : Col) (c b bl cap kc : Nat) (kA : Option Addr) (d : Dev) (y : Value) (wr : World) : Prop :=
  ∃ i, i ≤ d.l.length ∧ y = .int .i64 (i : Int) ∧ RefAt w col c b bl cap kc kA { d with l := flMid i d.l } wr
set_option maxRecDepth 100000 in
set_option maxHeartbeats 1600000 in
theorem refdev_flush {w : World} {col : Col} {c b : Nat} {d : Dev} (h : RefP w col c b d) (hp : Plain w col) (hc0 : c ≠ 0) :
    Calls Try.prog 60 #[.pointer (some ⟨b, 0, none⟩)] w fun e w' =>
      e = .returned (.int .i64 d.flush.2) ∧ Ext (· = c) w col w' col ∧ RefP w' col c b d.flush.1 := by
  have h0 := h
  obtain ⟨ok, bl, cap, cs, kA, kc, h⟩ := h
  have c5 := h.c5
  have c6 := h.c6
  have H := Lib.hid h
  have HF0 : Hid (Ext (· = c) w col w col ∧ RefP w col c b d) := ⟨Ext.refl hp, h0⟩
  have HOK := Lib.hid ok.flush
  have HIN := Lib.hid ok
  clear h h0
  cases hd : d.dead <;> rw [hd] at c5
  case true =>
    have e1 : d.flush = (d, 100) := by simp [Dev.flush, hd]
    rw [e1]
    clear e1
    go_enter Try.func60, Try.ntmps60
    go_wp2
    go_ret
    exact ⟨rfl, HF0.out⟩
  have hwr : d.flush = d.worked id (·.map Sec.flush) := by simp [Dev.flush, hd]
  rw [hwr] at HOK ⊢
  by_cases htil : d.til = 0
  · have e1 : d.worked id (·.map Sec.flush) = (d, 101) := by simp [Dev.worked, htil]
    rw [e1]
    have hb : (d.til == 0) = true := by rw [beq_iff_eq]; exact htil
    clear e1 htil
    go_enter Try.func60, Try.ntmps60
    go_wp2
    go_ret
    exact ⟨rfl, HF0.out⟩
  have hb : (d.til == 0) = false := by rw [beq_eq_false_iff_ne]; exact htil
  have ht := ok.til
  have hle := ok.left
  have HTIL := Lib.hid htil
  clear htil hwr ok
  go_enter Try.func60, Try.ntmps60
  go_wp2_with fail
  refine (refdev_fails H.out hp hc0 hle).mono ?_
  rintro e w6 ⟨rfl, he6, h6⟩
  have HE6 := Lib.hid he6
  have H6 := Lib.hid h6
  clear he6 h6 c5 c6
  by_cases hl0 : d.left = 0
  · rw [show (d.left == 0) = true from by rw [beq_iff_eq]; exact hl0]
    have hm : max (d.left - 1) (-1) = -1 := by omega
    rw [hm] at H6
    have hw2 : d.worked id (·.map Sec.flush) = (d.gone d.keep, 100) := by unfold Dev.worked; rw [if_neg HTIL.out, if_pos hl0]; rfl
    have HW2 := Lib.hid hw2
    have p2 := H6.out.c2
    clear hw2 hl0 hm
    go_wp2_with fail
    refine (refdev_gone H6.out HE6.out.plain hc0 (fun t ht => ⟨HIN.out.now t ht, HIN.out.sure t ht⟩) HIN.out.few d.keep kA kc H6.out.keep H6.out.kcol HIN.out.keep).mono ?_
    rintro e w7 ⟨rfl, he7, cs7, h7⟩
    have HF : Hid (Ext (· = c) w col w7 col ∧ RefP w7 col c b (d.worked id (·.map Sec.flush)).1) := by
      refine ⟨HE6.out.trans he7, HOK.out, bl, cap, cs7, kA, kc, ?_⟩
      rw [HW2.out]; exact h7
    clear he7 h7 p2
    go_wp2
    go_ret
    exact ⟨by rw [HW2.out]; rfl, HF.out⟩
  · rw [show (d.left == 0) = false from by rw [beq_eq_false_iff_ne]; exact hl0]
    have hw2 : d.worked id (·.map Sec.flush) = ({ d with l := d.l.map Sec.flush, done := wrapI (d.done + 1), left := max (d.left - 1) (-1), til := max (d.til - 1) (-1) }, 0) := by simp [Dev.worked, HTIL.out, hl0]
    have HW2 := Lib.hid hw2
    clear hw2 hl0
    generalize hml : max (d.left - 1) (-1) = lf at *
    have HML := Lib.hid hml
    clear hml
    go_wp2
    go_loopw [3] (fun y wr => FlRel w col c b bl cap kc kA { d with left := lf } y wr) (fun y _ => d.l.length - (intOf y).toNat)
    case atStart => exact ⟨0, Nat.zero_le _, rfl, HE6.out, cs, H6.out⟩
    case round =>
      obtain ⟨i, hi, rfl, he, cs1, h1⟩ := hrel
      have hi : i ≤ d.l.length := hi
      have HE := Lib.hid he
      have H1 := Lib.hid h1
      have c0 : wr.cell? ⟨b, 0, none⟩ = some (.slice (some ⟨bl, 0, none⟩) d.l.length cap) := by have := h1.c0; rwa [show ({ d with l := flMid i d.l, left := lf } : Dev).l.length = d.l.length from flMid_len ..] at this
      clear he h1
      by_cases hlt : i < d.l.length
      · have hfew := HIN.out.few
        have i0 : (0 : Int) ≤ (i : Int) := by omega
        have i1 : (i : Int) < (d.l.length : Int) := by omega
        have hg := flMid_at hlt
        have hst := flMid_step hlt
        have hall := HIN.out.now d.l[i] (List.getElem_mem _)
        generalize d.l[i] = t at *
        have hL1 : (flMid i d.l).length = d.l.length := flMid_len ..
        have HL := Lib.hid (And.intro hL1 (And.intro hg (And.intro hst hall)))
        obtain ⟨A1', k1', A2', k2', r0, r1, r2, s1, s2, l1, l2⟩ := H1.out.at' rfl hg
        clear hL1 hg hst hall
        have q0 : wr.cell? ⟨bl, i * 3, none⟩ = some (.slice A1' t.now.length k1') := by rw [H1.out.row.cell]; exact r0
        have q1 : wr.cell? ⟨bl, i * 3 + 1, none⟩ = some (.slice A2' t.sure.length k2') := by rw [H1.out.row.cell]; exact r1
        have HS : Hid (∀ W, Below wr.heap.size wr W → CopyS b bl d.l.length cap i 0 A1' k1' t.now W) := Lib.hid fun W hW => by have := H1.out.copyS (f := 0) q0 s1 hW; rwa [show ({ d with l := flMid i d.l, left := lf } : Dev).l.length = d.l.length from HL.out.1] at this
        have HT : Hid (∀ W v, Below wr.heap.size wr W → CopyS b bl d.l.length cap i 0 A1' k1' t.now (W.setCell ⟨bl, i * 3 + 1, none⟩ v)) := Lib.hid fun W v hW => by have := H1.out.copyT hc0 (f := 0) (g := 1) q0 s1 l1 (by omega) hW v; rwa [show ({ d with l := flMid i d.l, left := lf } : Dev).l.length = d.l.length from HL.out.1] at this
        have HQ : Hid (∀ W, Below wr.heap.size wr W → W.cell? ⟨bl, i * 3 + 1, none⟩ = some (.slice A2' t.sure.length k2') ∧ W.frozen? ⟨bl, i * 3 + 1, none⟩ = false) := Lib.hid fun W hW => H1.out.rowCell q1 hW
        clear r0 r1 r2 s1 s2 l1 l2
        go_wp2_with fail
        go_region_held3 (fun w' => w'.cell? ⟨b, 0, none⟩ = some (.slice (some ⟨bl, 0, none⟩) d.l.length cap) ∧ w'.cell? ⟨bl, i * 3, none⟩ = some (.slice A1' t.now.length k1') ∧ Sl w' A1' (bytesV t.now))
          (first | exact HS.out _ ((Below.refl _ _).drew) | exact HS.out _ (Below.undrew hbel) | exact HT.out _ _ (Below.undrew hbel)) ((go_at_call 40; refine (copyBytes_sl (HS.out _ ((Below.refl _ _).drew)).2.2 _ (by rw [HL.out.2.2.2]; omega)).mono ?_; rintro e w1 ⟨G, cp, rfl, hG, hGb, hbel⟩; obtain ⟨hq0, hz0⟩ := HQ.out _ (Below.undrew hbel)))
        have he3 : Ext (· = c) w col (w1.setCell ⟨bl, i * 3 + 1, none⟩ (.slice G t.now.length cp)) col := (HE.out.below (Below.undrew hbel)).setCell _ _ (.inl H1.out.cbl)
        obtain ⟨cs3, h3⟩ := H1.out.put_sure' hc0 HE.out.plain rfl HL.out.2.1 (Below.undrew hbel) cp hG hGb
        have H3 := Lib.hid h3
        have HE3 := Lib.hid he3
        clear he3 h3 hG hGb hbel hq0 hz0 HS HT HQ
        generalize w1.setCell ⟨bl, i * 3 + 1, none⟩ (.slice G t.now.length cp) = w4 at *
        have hL4 : ((flMid i d.l).set i { t with sure := t.now })[i]? = some { t with sure := t.now } := by rw [List.getElem?_set_self (by have := HL.out.1; omega)]
        have p0 : w4.cell? ⟨b, 0, none⟩ = some (.slice (some ⟨bl, 0, none⟩) d.l.length cap) := by have := H3.out.c0; rwa [show ({ d with l := (flMid i d.l).set i { t with sure := t.now }, left := lf } : Dev).l.length = d.l.length from (List.length_set ..).trans HL.out.1] at this
        obtain ⟨A1'', k1'', A2'', k2'', x0, x1, x2, -⟩ := H3.out.at' rfl hL4
        have p2 : w4.cell? ⟨bl, i * 3 + 2, none⟩ = some (.bool t.wr) := by rw [H3.out.row.cell]; exact x2
        have z2 := H3.out.row.frozen (i * 3 + 2)
        have HL4 := Lib.hid hL4
        clear x0 x1 x2 q0 q1 c0 hL4
        go_wp2
        go_roundw
        case rel =>
          obtain ⟨cs5, h5⟩ := H3.out.put_wr' hc0 rfl HL4.out false
          refine ⟨i + 1, by show i + 1 ≤ d.l.length; omega, by go_num, HE3.out.setCell _ _ (.inl H3.out.cbl), cs5, ?_⟩
          rw [List.set_set] at h5
          show RefB _ col c b bl cap cs5 kA kc { d with left := lf, l := flMid (i + 1) d.l }
          rw [← HL.out.2.2.1]; exact h5
        case measure => simp [intOf]; omega
      · obtain rfl : i = d.l.length := by omega
        have hE := flMid_all d.l
        have h2 := H1.out
        rw [show ({ d with left := lf, l := flMid ({ d with left := lf } : Dev).l.length ({ d with left := lf } : Dev).l } : Dev) = { d with left := lf, l := d.l.map Sec.flush } from by rw [← hE]] at h2
        have H2 := Lib.hid h2
        clear h2 hE
        go_wp2_with fail
        refine (refdev_done H2.out HE.out.plain hc0 HTIL.out ht).mono ?_
        rintro e w7 ⟨rfl, he7, h7⟩
        have HF : Hid (Ext (· = c) w col w7 col ∧ RefP w7 col c b (d.worked id (·.map Sec.flush)).1) := by
          refine ⟨HE.out.trans he7, HOK.out, bl, cap, cs1, kA, kc, ?_⟩
          rw [HW2.out]; exact h7
        clear he7 h7
        go_wp2
        go_ret
        exact ⟨by rw [HW2.out]; rfl, HF.out⟩
end Go.Proofs.Ytfcialmdediojaa
