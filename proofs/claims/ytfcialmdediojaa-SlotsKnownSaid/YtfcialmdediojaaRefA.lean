/-
  The reference's device (muslinref10): what its memory is; Boot, Refuse, Fail, Read and the small ones.
-/
import Derived.Test.YtfcialmdediojaaLib
import Derived.Test.YtfcialmdediojaaDev
import Derived.BigRegion
namespace Go.Proofs.Ytfcialmdediojaa
set_option linter.unusedVariables false
set_option linter.unusedSimpArgs false
open Go.RowKit
def RowAt (w : World) (col : Col) (cs : Array Value) (i : Nat) (s : Sec) : Prop := ∃ A1 c1 A2 c2, cs[i * 3]? = some (.slice A1 s.now.length c1) ∧ cs[i * 3 + 1]? = some (.slice A2 s.sure.length c2) ∧ cs[i * 3 + 2]? = some (.bool s.wr) ∧
  Sl w A1 (bytesV s.now) ∧ Sl w A2 (bytesV s.sure) ∧ SlCol col 0 A1 s.now.length ∧ SlCol col 0 A2 s.sure.length
/-- the memory of a reference's device at block b -/
structure RefB (w : World) (col : Col) (c b bl cap : Nat) (cs : Array Value) (kA : Option Addr) (kc : Nat) (d : Dev) : Prop where
  hd : Blk w b 84 #[.slice (some ⟨bl, 0, none⟩) d.l.length cap, .int .i64 d.left, .slice kA d.keep.length kc, .int .i64 d.til, .int .i64 d.done, .bool d.dead, .bool (d.til == 0)]
  row : Blk w bl 86 cs
  at_ : ∀ i (h : i < d.l.length), RowAt w col cs i d.l[i]
  keep : Sl w kA (d.keep.map intV)
  kcol : SlCol col 0 kA d.keep.length
  cb : col b = c
  cbl : col bl = c
def RefP (w : World) (col : Col) (c b : Nat) (d : Dev) : Prop := d.OK ∧ ∃ bl cap cs kA kc, RefB w col c b bl cap cs kA kc d
section
variable {w w' : World} {col col' : Col} {C : Nat → Prop} {c b bl cap kc : Nat} {cs : Array Value} {kA : Option Addr} {d d' : Dev}
theorem RowAt.ext {i : Nat} {s : Sec} (h : RowAt w col cs i s) (he : Ext C w col w' col') (h0 : ¬ C 0) : RowAt w' col' cs i s := by
  obtain ⟨A1, c1, A2, c2, r0, r1, r2, s1, s2, k1, k2⟩ := h
  refine ⟨A1, c1, A2, c2, r0, r1, r2, s1.ext he (c := 0) (by rw [bytesV_len]; exact k1) h0, s2.ext he (c := 0) (by rw [bytesV_len]; exact k2) h0, k1.ext he (fun ad ha hn => s1.lt ad ha (by rw [bytesV_len]; exact hn)), k2.ext he (fun ad ha hn => s2.lt ad ha (by rw [bytesV_len]; exact hn))⟩
theorem RefB.ext (h : RefB w col c b bl cap cs kA kc d) (he : Ext C w col w' col') (hc : ¬ C c) (h0 : ¬ C 0) : RefB w' col' c b bl cap cs kA kc d :=
  ⟨h.hd.ext he (by rw [h.cb]; exact hc), h.row.ext he (by rw [h.cbl]; exact hc), fun i hi => (h.at_ i hi).ext he h0, h.keep.ext he (c := 0) (by simpa using h.kcol) h0, h.kcol.ext he (fun ad ha hn => h.keep.lt ad ha (by simpa using hn)),
   (he.same _ h.hd.lt).trans h.cb, (he.same _ h.row.lt).trans h.cbl⟩
theorem RefP.ext (h : RefP w col c b d) (he : Ext C w col w' col') (hc : ¬ C c) (h0 : ¬ C 0) : RefP w' col' c b d := by
  obtain ⟨ok, bl, cap, cs, kA, kc, h⟩ := h
  exact ⟨ok, bl, cap, cs, kA, kc, h.ext he hc h0⟩
theorem RefB.hne (h : RefB w col c b bl cap cs kA kc d) : b ≠ bl := h.hd.ne_ h.row (by decide)
theorem Sl.sameBut {A : Option Addr} {xs : List Value} {q : Nat} (h : Sl w A xs) (hk : SlCol col 0 A xs.length) (hc : col q ≠ 0) (hoth : ∀ k, k ≠ q → w'.heap[k]? = w.heap[k]?) (hs : w.heap.size ≤ w'.heap.size) : Sl w' A xs := fun hn => by
  obtain ⟨g, o, rfl, hlt, hx⟩ := h hn
  have hg : col g = 0 := hk hn _ rfl
  exact ⟨g, o, rfl, by omega, fun j hj => (World.cell?_of_block (w := w) (hoth g (fun e => hc (by rw [← e]; exact hg)))).trans (hx j hj)⟩
/-- only the head has turned -/
theorem RefB.head (h : RefB w col c b bl cap cs kA kc d) (hc0 : c ≠ 0) (kA' : Option Addr) (kc' : Nat)
    (hb : Blk w' b 84 #[.slice (some ⟨bl, 0, none⟩) d'.l.length cap, .int .i64 d'.left, .slice kA' d'.keep.length kc', .int .i64 d'.til, .int .i64 d'.done, .bool d'.dead, .bool (d'.til == 0)])
    (hoth : ∀ q, q ≠ b → w'.heap[q]? = w.heap[q]?) (hs : w.heap.size ≤ w'.heap.size) (hl : d'.l = d.l) (hk : Sl w' kA' (d'.keep.map intV)) (hkc : SlCol col 0 kA' d'.keep.length) : RefB w' col c b bl cap cs kA' kc' d' := by
  have hcb : col b ≠ 0 := by rw [h.cb]; exact hc0
  refine ⟨hb, h.row.of (hoth bl (Ne.symm h.hne)), ?_, hk, hkc, h.cb, h.cbl⟩
  intro i hi
  have hi' : i < d.l.length := by rw [hl] at hi; exact hi
  have e : d'.l[i] = d.l[i] := by simp [hl]
  rw [e]
  obtain ⟨A1, c1, A2, c2, r0, r1, r2, s1, s2, k1, k2⟩ := h.at_ i hi'
  exact ⟨A1, c1, A2, c2, r0, r1, r2, s1.sameBut (by rw [bytesV_len]; exact k1) hcb hoth hs, s2.sameBut (by rw [bytesV_len]; exact k2) hcb hoth hs, k1, k2⟩
theorem RefB.keepOld (h : RefB w col c b bl cap cs kA kc d) (hc0 : c ≠ 0) (hoth : ∀ q, q ≠ b → w'.heap[q]? = w.heap[q]?) (hs : w.heap.size ≤ w'.heap.size) : Sl w' kA (d.keep.map intV) :=
  h.keep.sameBut (by simpa using h.kcol) (by rw [h.cb]; exact hc0) hoth hs
/-- a cell of the row has turned -/
theorem RefB.put (h : RefB w col c b bl cap cs kA kc d) (hc0 : c ≠ 0) {i f : Nat} (hf : f < 3) (v : Value) (s' : Sec)
    (hr : RowAt w col (cs.setIfInBounds (i * 3 + f) v) i s') : RefB (w.setCell ⟨bl, i * 3 + f, none⟩ v) col c b bl cap (cs.setIfInBounds (i * 3 + f) v) kA kc { d with l := d.l.set i s' } := by
  have hcb : col bl ≠ 0 := by rw [h.cbl]; exact hc0
  have hoth : ∀ k, k ≠ bl → (w.setCell ⟨bl, i * 3 + f, none⟩ v).heap[k]? = w.heap[k]? := fun k hk => Below.heap_setCell _ _ _ _ hk
  have hs : w.heap.size ≤ (w.setCell ⟨bl, i * 3 + f, none⟩ v).heap.size := by simp
  refine ⟨?_, h.row.set_ _ _, ?_, h.keep.sameBut (by simpa using h.kcol) hcb hoth hs, h.kcol, h.cb, h.cbl⟩
  · simpa using h.hd.far (p := ⟨bl, i * 3 + f, none⟩) h.hne v
  · intro j hj
    have hj' : j < d.l.length := by simpa using hj
    by_cases e : j = i
    · subst e
      have es : (d.l.set j s')[j]'(by simpa using hj) = s' := by simp
      show RowAt _ col _ j ((d.l.set j s')[j]'(by simpa using hj))
      rw [es]
      obtain ⟨A1, c1, A2, c2, r0, r1, r2, s1, s2, k1, k2⟩ := hr
      exact ⟨A1, c1, A2, c2, r0, r1, r2, s1.sameBut (by rw [bytesV_len]; exact k1) hcb hoth hs, s2.sameBut (by rw [bytesV_len]; exact k2) hcb hoth hs, k1, k2⟩
    · have es : (d.l.set i s')[j]'(by simpa using hj) = d.l[j] := by simp [Ne.symm e]
      show RowAt _ col _ j ((d.l.set i s')[j]'(by simpa using hj))
      rw [es]
      obtain ⟨A1, c1, A2, c2, r0, r1, r2, s1, s2, k1, k2⟩ := h.at_ j hj'
      refine ⟨A1, c1, A2, c2, ?_, ?_, ?_, s1.sameBut (by rw [bytesV_len]; exact k1) hcb hoth hs, s2.sameBut (by rw [bytesV_len]; exact k2) hcb hoth hs, k1, k2⟩
      · rw [Array.getElem?_setIfInBounds, if_neg (by omega)]; exact r0
      · rw [Array.getElem?_setIfInBounds, if_neg (by omega)]; exact r1
      · rw [Array.getElem?_setIfInBounds, if_neg (by omega)]; exact r2
theorem RefB.c0 (h : RefB w col c b bl cap cs kA kc d) : w.cell? ⟨b, 0, none⟩ = some (.slice (some ⟨bl, 0, none⟩) d.l.length cap) := h.hd.cell 0
theorem RefB.c1 (h : RefB w col c b bl cap cs kA kc d) : w.cell? ⟨b, 1, none⟩ = some (.int .i64 d.left) := h.hd.cell 1
theorem RefB.c2 (h : RefB w col c b bl cap cs kA kc d) : w.cell? ⟨b, 2, none⟩ = some (.slice kA d.keep.length kc) := h.hd.cell 2
theorem RefB.c3 (h : RefB w col c b bl cap cs kA kc d) : w.cell? ⟨b, 3, none⟩ = some (.int .i64 d.til) := h.hd.cell 3
theorem RefB.c4 (h : RefB w col c b bl cap cs kA kc d) : w.cell? ⟨b, 4, none⟩ = some (.int .i64 d.done) := h.hd.cell 4
theorem RefB.c5 (h : RefB w col c b bl cap cs kA kc d) : w.cell? ⟨b, 5, none⟩ = some (.bool d.dead) := h.hd.cell 5
theorem RefB.c6 (h : RefB w col c b bl cap cs kA kc d) : w.cell? ⟨b, 6, none⟩ = some (.bool (d.til == 0)) := h.hd.cell 6
end
set_option maxRecDepth 100000 in
theorem refdev_boot {w : World} {col : Col} {c b : Nat} {d : Dev} (h : RefP w col c b d) (hp : Plain w col) (hc0 : c ≠ 0) :
    Calls Try.prog 44 #[.pointer (some ⟨b, 0, none⟩)] w fun e w' => e = .returned (.int .i64 0) ∧ Ext (· = c) w col w' col ∧ RefP w' col c b d.boot := by
  obtain ⟨ok, bl, cap, cs, kA, kc, h⟩ := h
  have z5 := h.hd.frozen 5
  have c5 := h.c5
  have H := Lib.hid h
  clear h
  go_enter Try.func44, Try.ntmps44
  go_wp2
  go_ret
  have hoth : ∀ q, q ≠ b → (w.setCell ⟨b, 5, none⟩ (.bool false)).heap[q]? = w.heap[q]? := fun q hq => Below.heap_setCell _ _ _ _ hq
  exact ⟨rfl, (Ext.refl hp).setCell _ _ (.inl H.out.cb), ok.boot, bl, cap, cs, kA, kc, H.out.head hc0 kA kc (by simpa [Dev.boot] using H.out.hd.set_ 5 (.bool false)) hoth (by simp) rfl (H.out.keepOld hc0 hoth (by simp)) H.out.kcol⟩
set_option maxRecDepth 100000 in
theorem refdev_refuse {w : World} {col : Col} {c b : Nat} {d : Dev} (h : RefP w col c b d) (hp : Plain w col) (hc0 : c ≠ 0) (n : Int) (hn : -9223372036854775808 ≤ n ∧ n ≤ 9223372036854775807) :
    Calls Try.prog 48 #[.pointer (some ⟨b, 0, none⟩), .int .i64 n] w fun e w' => e = .returned (.int .i64 (d.refuse n).2) ∧ Ext (· = c) w col w' col ∧ RefP w' col c b (d.refuse n).1 := by
  have h0 := h
  obtain ⟨ok, bl, cap, cs, kA, kc, h⟩ := h
  have z3 := h.hd.frozen 3
  have z6 := h.hd.frozen 6
  have c5 := h.c5
  have c3 := h.c3
  have c6 := h.c6
  have H := Lib.hid h
  clear h
  cases hd : d.dead <;> rw [hd] at c5
  · have e1 : d.refuse n = ({ d with til := max n (-1) }, 0) := by simp [Dev.refuse, hd]
    rw [e1]
    have HK := Lib.hid (ok.refuse hn.2)
    rw [e1] at HK
    clear e1
    go_enter Try.func48, Try.ntmps48
    go_wp2
    go_ret
    have hb := (H.out.hd.set_ 3 (.int .i64 (max n (-1)))).set_ 6 (.bool (n == 0))
    have hoth : ∀ q, q ≠ b → ((w.setCell ⟨b, 3, none⟩ (.int .i64 (max n (-1)))).setCell ⟨b, 6, none⟩ (.bool (n == 0))).heap[q]? = w.heap[q]? := fun q hq => (Below.heap_setCell _ _ _ _ hq).trans (Below.heap_setCell _ _ _ _ hq)
    have hz : (n == 0) = (max n (-1) == 0) := by
      by_cases hn0 : n = 0
      · subst hn0; rfl
      · rw [beq_eq_false_iff_ne.2 hn0, beq_eq_false_iff_ne.2 (by omega)]
    refine ⟨rfl, ((Ext.refl hp).setCell _ _ (.inl H.out.cb)).setCell _ _ (.inl H.out.cb), (by have := HK.out; rw [hd] at this; exact this), bl, cap, cs, kA, kc, H.out.head hc0 kA kc ?_ hoth (by simp) rfl (H.out.keepOld hc0 hoth (by simp)) H.out.kcol⟩
    rw [hz] at hb ⊢; simpa [hd] using hb
  · have e1 : d.refuse n = (d, 100) := by simp [Dev.refuse, hd]
    rw [e1]
    clear e1
    go_enter Try.func48, Try.ntmps48
    go_wp2
    go_ret
    exact ⟨rfl, Ext.refl hp, h0⟩
set_option maxRecDepth 100000 in
theorem refdev_fail {w : World} {col : Col} {c b : Nat} {d : Dev} (h : RefP w col c b d) (hp : Plain w col) (hc0 : c ≠ 0) (n : Int) (hn : -9223372036854775808 ≤ n ∧ n ≤ 9223372036854775807)
    {A : Option Addr} {ks : List Int} (kcap : Nat) (hks : Sl w A (ks.map intV)) (hAc : 0 < ks.length → ∀ ad, A = some ad → col ad.block ≠ c) (hsm : ks.length ≤ 17592186044416) (hin : ∀ x ∈ ks, -9223372036854775808 ≤ x ∧ x ≤ 9223372036854775807) :
    Calls Try.prog 46 #[.pointer (some ⟨b, 0, none⟩), .int .i64 n, .slice A ks.length kcap] w fun e w' => e = .returned (.int .i64 (d.fail n ks).2) ∧ Ext (· = c) w col w' col ∧ RefP w' col c b (d.fail n ks).1 := by
  have h0 := h
  obtain ⟨ok, bl, cap, cs, kA, kc, h⟩ := h
  have z1 := h.hd.frozen 1
  have c5 := h.c5
  have c1 := h.c1
  have H := Lib.hid h
  have HL := Lib.hid hks
  have HA := Lib.hid hAc
  clear h hks hAc
  cases hd : d.dead <;> rw [hd] at c5
  · have e1 : d.fail n ks = ({ d with left := max n (-1), keep := ks }, 0) := by simp [Dev.fail, hd]
    rw [e1]
    have HK := Lib.hid (ok.fail hn.2 hin)
    rw [e1] at HK
    clear e1
    go_enter Try.func46, Try.ntmps46
    go_wp2_with fail
    have hb1 := H.out.hd.set_ 1 (.int .i64 (max n (-1)))
    have hoth1 : ∀ q, q ≠ b → (w.setCell ⟨b, 1, none⟩ (.int .i64 (max n (-1)))).heap[q]? = w.heap[q]? := fun q hq => Below.heap_setCell _ _ _ _ hq
    have hks1 : Sl (w.setCell ⟨b, 1, none⟩ (.int .i64 (max n (-1)))) A (ks.map intV) := HL.out.setCell _ (fun ad ha hpos e => HA.out (by simpa using hpos) ad ha (by rw [e]; exact H.out.cb))
    have hs1 : (w.setCell ⟨b, 1, none⟩ (.int .i64 (max n (-1)))).heap.size = w.heap.size := by simp
    have he1 : Ext (· = c) w col (w.setCell ⟨b, 1, none⟩ (.int .i64 (max n (-1)))) col := (Ext.refl hp).setCell _ _ (.inl H.out.cb)
    generalize w.setCell ⟨b, 1, none⟩ (.int .i64 (max n (-1))) = w1 at *
    have HX := Lib.hid (And.intro hb1 (And.intro hoth1 (And.intro hs1 he1)))
    clear hb1 hoth1 hs1 he1
    refine (copyInts hks1 kcap hsm).mono ?_
    rintro e w2 ⟨v, rfl, hown, hbel⟩
    obtain ⟨G, cp, rfl, hG, hcp, hGpos, hGbase⟩ := slice_of_own hown
    rw [List.length_map] at *
    have hb2 := HX.out.1.below hbel HX.out.1.lt
    have z2 := hb2.frozen 2
    have c2 := hb2.cell 2
    have HY := Lib.hid (And.intro hown (And.intro hbel (And.intro hG (And.intro hGpos (And.intro hGbase hb2)))))
    clear hown hbel hG hGpos hGbase hb2 hks1
    go_wp2_with fail
    go_ret
    obtain ⟨hown, hbel, hG, hGpos, hGbase, hb2⟩ := HY.out
    obtain ⟨hb1, hoth1, hs1, he1⟩ := HX.out
    have he2 : Ext (· = c) w col (w2.setCell ⟨b, 2, none⟩ (.slice G ks.length cp)) col := (he1.below hbel).setCell _ _ (.inl H.out.cb)
    have hbw : b < w.heap.size := H.out.hd.lt
    have hoth2 : ∀ q, q ≠ b → (w2.setCell ⟨b, 2, none⟩ (.slice G ks.length cp)).heap[q]? = w2.heap[q]? := fun q hq => Below.heap_setCell _ _ _ _ hq
    have hGc : SlCol col 0 G ks.length := fun hpos ad ha => hp _ (by have := hGbase ad ha; omega)
    -- by the road of 'ext' first: to the world behind the copying, then the head
    have hRw : RefB w2 col c b bl cap cs kA kc d ∨ True := .inr trivial
    refine ⟨rfl, he2, HK.out, bl, cap, cs, G, cp, ?_⟩
    have hcbne : col b ≠ 0 := by rw [H.out.cb]; exact hc0
    have hblw : bl < w.heap.size := H.out.row.lt
    have hcell : ∀ q, q < w.heap.size → q ≠ b → (w2.setCell ⟨b, 2, none⟩ (.slice G ks.length cp)).heap[q]? = w.heap[q]? := fun q hq hqb => (hoth2 q hqb).trans ((hbel.block q (by omega)).trans (hoth1 q hqb))
    have hsl : ∀ {A : Option Addr} {xs : List Value}, Sl w A xs → SlCol col 0 A xs.length → Sl (w2.setCell ⟨b, 2, none⟩ (.slice G ks.length cp)) A xs := fun {A xs} hS hC hn => by
      obtain ⟨g, o, rfl, hlt, hx⟩ := hS hn
      have hg : col g = 0 := hC hn _ rfl
      exact ⟨g, o, rfl, Nat.lt_of_lt_of_le hlt he2.size, fun j hj => (World.cell?_of_block (w := w) (hcell g hlt (fun e => hcbne (by rw [← e]; exact hg)))).trans (hx j hj)⟩
    refine ⟨by simpa [hd] using hb2.set_ 2 (.slice G ks.length cp), H.out.row.of (hcell bl hblw (Ne.symm H.out.hne)), fun i hi => ?_, hG.of (fun q o e => hoth2 q ?_) (by simp), hGc, H.out.cb, H.out.cbl⟩
    · obtain ⟨A1, c1', A2, c2', r0, r1, r2, s1, s2, k1, k2⟩ := H.out.at_ i hi
      exact ⟨A1, c1', A2, c2', r0, r1, r2, hsl s1 (by rw [bytesV_len]; exact k1), hsl s2 (by rw [bytesV_len]; exact k2), k1, k2⟩
    · have := hGbase _ e
      simp only at this; omega
  · have e1 : d.fail n ks = (d, 100) := by simp [Dev.fail, hd]
    rw [e1]
    clear e1
    go_enter Try.func46, Try.ntmps46
    go_wp2
    go_ret
    exact ⟨rfl, Ext.refl hp, h0⟩
end Go.Proofs.Ytfcialmdediojaa
