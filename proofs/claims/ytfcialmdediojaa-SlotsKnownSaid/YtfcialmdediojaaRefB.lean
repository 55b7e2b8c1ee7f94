/-
  The reference's device: Read, fails, done.
-/
import Derived.Test.YtfcialmdediojaaRefA
import Derived.Test.YtfcialmdediojaaSecG
namespace Go.Proofs.Ytfcialmdediojaa
set_option linter.unusedVariables false
set_option linter.unusedSimpArgs false
open Go.RowKit
set_option maxRecDepth 100000 in
set_option maxHeartbeats 800000 in
theorem refdev_read {w : World} {col : Col} {c b : Nat} {d : Dev} (h : RefP w col c b d) (i : Int) :
    Calls Try.prog 50 #[.pointer (some ⟨b, 0, none⟩), .int .i64 i] w (ReadEnd w d i) := by
  obtain ⟨ok, bl, cap, cs, kA, kc, h⟩ := h
  have c5 := h.c5
  have c0 := h.c0
  have H := Lib.hid h
  clear h
  cases hd : d.dead <;> rw [hd] at c5
  · by_cases hneg : i < 0
    · have e1 : d.read i = ([], 9) := by simp [Dev.read, Dev.at_, hd, hneg]
      have HE := Lib.hid e1
      clear e1
      go_enter Try.func50, Try.ntmps50
      go_wp2
      go_ret2
      exact ⟨_, by rw [HE.out]; rfl, by rw [HE.out]; exact ownsRow_nil .., Below.refl _ _⟩
    · by_cases hge : (d.l.length : Int) ≤ i
      · have e1 : d.read i = ([], 9) := by simp [Dev.read, Dev.at_, hd, hge]
        have HE := Lib.hid e1
        clear e1
        go_enter Try.func50, Try.ntmps50
        go_wp2
        go_ret2
        exact ⟨_, by rw [HE.out]; rfl, by rw [HE.out]; exact ownsRow_nil .., Below.refl _ _⟩
      · obtain ⟨n, rfl⟩ : ∃ n : Nat, i = (n : Int) := ⟨i.toNat, by omega⟩
        have hn : n < d.l.length := by omega
        have hlen : d.l[n].now.length = 128 := ok.now _ (List.getElem_mem _)
        have e1 : d.read (n : Int) = (d.l[n].now, 0) := by simp [Dev.read, Dev.at_, hd, hneg, hge, List.getD, hn]
        have HE := Lib.hid e1
        obtain ⟨A1, c1, A2, c2, r0, r1, r2, s1, s2, k1, k2⟩ := H.out.at_ n hn
        have q0 : w.cell? ⟨bl, n * 3, none⟩ = some (.slice A1 d.l[n].now.length c1) := by rw [H.out.row.cell]; exact r0
        have hcl := copyBytes s1 c1 (by omega)
        have HL := Lib.hid hcl
        have i0 : (0 : Int) ≤ (n : Int) := by omega
        have i1 : (n : Int) < (d.l.length : Int) := by omega
        clear hcl e1 r0 r1 r2 s1 s2 k1 k2 hlen hneg hge
        generalize d.l[n].now = x at *
        go_enter Try.func50, Try.ntmps50
        go_wp2_with fail
        refine HL.out.mono ?_
        rintro e w1 ⟨v, rfl, hown, hbel⟩
        rw [bytesV_len] at hown
        have HX := Lib.hid (And.intro hown hbel)
        clear hown hbel
        go_wp2_with fail
        go_ret2
        exact ⟨_, by rw [HE.out]; rfl, by rw [HE.out]; exact HX.out.1, HX.out.2⟩
  · have e1 : d.read i = ([], 100) := by simp [Dev.read, Dev.at_, hd]
    have HE := Lib.hid e1
    clear e1
    go_enter Try.func50, Try.ntmps50
    go_wp2
    go_ret2
    exact ⟨_, by rw [HE.out]; rfl, by rw [HE.out]; exact ownsRow_nil .., Below.refl _ _⟩
set_option maxRecDepth 100000 in
theorem refdev_fails {w : World} {col : Col} {c b bl cap kc : Nat} {cs : Array Value} {kA : Option Addr} {d : Dev} (h : RefB w col c b bl cap cs kA kc d) (hp : Plain w col) (hc0 : c ≠ 0) (hl : -1 ≤ d.left ∧ d.left ≤ 9223372036854775807) :
    Calls Try.prog 64 #[.pointer (some ⟨b, 0, none⟩)] w fun e w' => e = .returned (.bool (d.left == 0)) ∧ Ext (· = c) w col w' col ∧ RefB w' col c b bl cap cs kA kc { d with left := max (d.left - 1) (-1) } := by
  have c1 := h.c1
  have z1 := h.hd.frozen 1
  have H := Lib.hid h
  clear h
  by_cases hneg : d.left < 0
  · have e : d.left = -1 := by omega
    have hm : max (d.left - 1) (-1) = d.left := by omega
    have hb : (d.left == 0) = false := by rw [beq_eq_false_iff_ne]; omega
    have HM := Lib.hid hm
    rw [e] at c1
    have HB := Lib.hid hb
    clear hneg e hm hb
    go_enter Try.func64, Try.ntmps64
    go_wp2
    go_ret
    exact ⟨by rw [HB.out]; rfl, Ext.refl hp, by rw [HM.out]; exact H.out⟩
  · have hm : max (d.left - 1) (-1) = d.left - 1 := by omega
    have HM := Lib.hid hm
    have hoth : ∀ q, q ≠ b → (w.setCell ⟨b, 1, none⟩ (.int .i64 (d.left - 1))).heap[q]? = w.heap[q]? := fun q hq => Below.heap_setCell _ _ _ _ hq
    have hR : Ext (· = c) w col (w.setCell ⟨b, 1, none⟩ (.int .i64 (d.left - 1))) col ∧ RefB (w.setCell ⟨b, 1, none⟩ (.int .i64 (d.left - 1))) col c b bl cap cs kA kc { d with left := max (d.left - 1) (-1) } :=
      ⟨(Ext.refl hp).setCell _ _ (.inl H.out.cb), H.out.head hc0 kA kc (by rw [hm]; simpa using H.out.hd.set_ 1 (.int .i64 (d.left - 1))) hoth (by simp) rfl (H.out.keepOld hc0 hoth (by simp)) H.out.kcol⟩
    have HR := Lib.hid hR
    clear hoth hR hm
    by_cases h0 : d.left = 0
    · have hb : (d.left == 0) = true := by rw [beq_iff_eq]; exact h0
      have HB := Lib.hid hb
      have h1 : decide (d.left - 1 < 0) = true := by simp; omega
      clear hb h0
      go_enter Try.func64, Try.ntmps64
      go_wp2
      go_ret
      exact ⟨by rw [HB.out]; rfl, HR.out⟩
    · have hb : (d.left == 0) = false := by rw [beq_eq_false_iff_ne]; exact h0
      have HB := Lib.hid hb
      have h1 : decide (d.left - 1 < 0) = false := by simp; omega
      clear hb
      go_enter Try.func64, Try.ntmps64
      go_wp2
      go_ret
      exact ⟨by rw [HB.out]; rfl, HR.out⟩
set_option maxRecDepth 100000 in
theorem refdev_done {w : World} {col : Col} {c b bl cap kc : Nat} {cs : Array Value} {kA : Option Addr} {d : Dev} (h : RefB w col c b bl cap cs kA kc d) (hp : Plain w col) (hc0 : c ≠ 0) (ht0 : d.til ≠ 0) (ht : -1 ≤ d.til ∧ d.til ≤ 9223372036854775807) :
    Calls Try.prog 65 #[.pointer (some ⟨b, 0, none⟩)] w fun e w' => e = .returned (.tuple #[]) ∧ Ext (· = c) w col w' col ∧ RefB w' col c b bl cap cs kA kc { d with done := wrapI (d.done + 1), til := max (d.til - 1) (-1) } := by
  have c3 := h.c3
  have c4 := h.c4
  have c6 := h.c6
  have z3 := h.hd.frozen 3
  have z4 := h.hd.frozen 4
  have z6 := h.hd.frozen 6
  have H := Lib.hid h
  clear h
  have hw : wrapI (d.done + 1) = wrap64 (d.done + 1) := by unfold wrap64 wrapI; rfl
  have HW := Lib.hid hw
  clear hw
  by_cases hneg : 0 < d.til
  · have hm : max (d.til - 1) (-1) = d.til - 1 := by omega
    have HM := Lib.hid hm
    clear hm
    go_enter Try.func65, Try.ntmps65
    go_wp2
    go_end0
    have hb := ((H.out.hd.set_ 4 (.int .i64 (wrap64 (d.done + 1)))).set_ 3 (.int .i64 (d.til - 1))).set_ 6 (.bool (d.til - 1 == 0))
    refine ⟨rfl, (((Ext.refl hp).setCell _ _ (.inl H.out.cb)).setCell _ _ (.inl H.out.cb)).setCell _ _ (.inl H.out.cb), ?_⟩
    have hoth : ∀ q, q ≠ b → (((w.setCell ⟨b, 4, none⟩ (.int .i64 (wrap64 (d.done + 1)))).setCell ⟨b, 3, none⟩ (.int .i64 (d.til - 1))).setCell ⟨b, 6, none⟩ (.bool (d.til - 1 == 0))).heap[q]? = w.heap[q]? := fun q hq => (Below.heap_setCell _ _ _ _ hq).trans ((Below.heap_setCell _ _ _ _ hq).trans (Below.heap_setCell _ _ _ _ hq))
    rw [HM.out, HW.out]
    exact H.out.head hc0 kA kc (by simpa using hb) hoth (by simp) rfl (H.out.keepOld hc0 hoth (by simp)) H.out.kcol
  · have e : d.til = -1 := by omega
    have hm : max (d.til - 1) (-1) = d.til := by omega
    have HM := Lib.hid hm
    have HT := Lib.hid e
    rw [e] at c3
    clear hm e hneg ht0 ht
    go_enter Try.func65, Try.ntmps65
    go_wp2
    go_end0
    have hb := (H.out.hd.set_ 4 (.int .i64 (wrap64 (d.done + 1))))
    refine ⟨rfl, (Ext.refl hp).setCell _ _ (.inl H.out.cb), ?_⟩
    have hoth : ∀ q, q ≠ b → (w.setCell ⟨b, 4, none⟩ (.int .i64 (wrap64 (d.done + 1)))).heap[q]? = w.heap[q]? := fun q hq => Below.heap_setCell _ _ _ _ hq
    rw [HM.out, HW.out]
    exact H.out.head hc0 kA kc (by simpa using hb) hoth (by simp) rfl (H.out.keepOld hc0 hoth (by simp)) H.out.kcol
end Go.Proofs.Ytfcialmdediojaa
