/-
  The reference's device: the power goes.
-/
import Derived.Test.YtfcialmdediojaaRefB
import Derived.Deep.RegionHeld3
import Derived.Deep.DrawnRows
import Derived.Deep.DeepCutAuto
import Derived.StillTailTactics
namespace Go.Proofs.Ytfcialmdediojaa
set_option linter.unusedVariables false
set_option linter.unusedSimpArgs false
open Go.RowKit
/-! ### plain: the power goes, sector by sector from the first on -/
def goneOne (keep : List Int) (k : Nat) (s : Sec) : Sec := if s.wr then ⟨s.lost keep k, s.lost keep k, false⟩ else ⟨s.now, s.now, false⟩
def cntW (i : Nat) (l : List Sec) : Nat := (l.take i).countP Sec.wr
def goneMid (keep : List Int) (i : Nat) (l : List Sec) : List Sec := goneL keep 0 (l.take i) ++ l.drop i
theorem goneL_cons (keep : List Int) (k : Nat) (s : Sec) (r : List Sec) : goneL keep k (s :: r) = goneOne keep k s :: goneL keep (if s.wr then k + 1 else k) r := by
  unfold goneOne
  show (if s.wr then _ else _) = _
  cases s.wr <;> rfl
theorem goneL_append (keep : List Int) : ∀ (l m : List Sec) (k : Nat), goneL keep k (l ++ m) = goneL keep k l ++ goneL keep (k + l.countP Sec.wr) m
  | [], m, k => rfl
  | s :: r, m, k => by
    rw [List.cons_append, goneL_cons, goneL_cons, goneL_append keep r m, List.countP_cons, List.cons_append]
    cases hs : s.wr
    · simp
    · simp [Nat.add_assoc, Nat.add_comm 1]
theorem goneMid_zero (keep : List Int) (l : List Sec) : goneMid keep 0 l = l := rfl
theorem goneMid_all (keep : List Int) (l : List Sec) : goneMid keep l.length l = goneL keep 0 l := by simp [goneMid]
theorem goneMid_len (keep : List Int) (i : Nat) (l : List Sec) : (goneMid keep i l).length = l.length := by
  unfold goneMid
  rw [List.length_append, goneL_len, ← List.length_append, List.take_append_drop]
theorem goneMid_at (keep : List Int) {i : Nat} {l : List Sec} (h : i < l.length) (h' : i < (goneMid keep i l).length) : (goneMid keep i l)[i] = l[i] := by
  have hlen : (goneL keep 0 (l.take i)).length = i := by rw [goneL_len, List.length_take]; omega
  have e : (goneMid keep i l)[i]? = l[i]? := by
    unfold goneMid
    rw [List.getElem?_append_right (by omega), hlen, Nat.sub_self, List.getElem?_drop, Nat.add_zero]
  rw [List.getElem?_eq_getElem h', List.getElem?_eq_getElem h] at e
  injection e
theorem goneMid_step (keep : List Int) {i : Nat} {l : List Sec} (h : i < l.length) : (goneMid keep i l).set i (goneOne keep (cntW i l) l[i]) = goneMid keep (i + 1) l := by
  have hlen : (goneL keep 0 (l.take i)).length = i := by rw [goneL_len, List.length_take]; omega
  unfold goneMid cntW
  rw [List.set_append_right _ _ (by omega), hlen, Nat.sub_self, List.take_succ_eq_append_getElem h, goneL_append, goneL_cons, List.append_assoc, List.drop_eq_getElem_cons h, List.set_cons_zero, Nat.zero_add]
  rfl
theorem cntW_step {i : Nat} {l : List Sec} (h : i < l.length) : cntW (i + 1) l = cntW i l + (if l[i].wr then 1 else 0) := by
  unfold cntW
  rw [List.take_succ_eq_append_getElem h, List.countP_append]
  simp
theorem cntW_le (i : Nat) (l : List Sec) : cntW i l ≤ i := by
  unfold cntW
  exact Nat.le_trans List.countP_le_length (by rw [List.length_take]; omega)

/-! ### the walk -/
theorem copyBytes_sl {w : World} {A : Option Addr} {l : List UInt8} (h : Sl w A (bytesV l)) (c : Nat) (hl : l.length ≤ 140737488355328) :
    Calls Try.prog 40 #[.slice A l.length c] w fun e w' => ∃ G cp, e = .returned (.slice G l.length cp) ∧ Sl w' G (bytesV l) ∧ (∀ ad, G = some ad → w.heap.size ≤ ad.block) ∧ Below w.heap.size w w' := by
  refine (copyBytes h c hl).mono ?_
  rintro e w1 ⟨v, rfl, hown, hbel⟩
  obtain ⟨G, cp, rfl, hG, hcp, hGpos, hGbase⟩ := slice_of_own hown
  rw [bytesV_len]
  exact ⟨G, cp, rfl, hG, hGbase, hbel⟩
theorem Below.undrew {w w' : World} (h : Below w.drew.heap.size w.drew w') : Below w.heap.size w w' := ⟨h.os, h.tape, h.output, h.size, h.block⟩
section
variable {w w1 W : World} {col : Col} {c b bl cap kc : Nat} {cs : Array Value} {kA : Option Addr} {d : Dev}
theorem RefB.below (h : RefB w col c b bl cap cs kA kc d) (hp : Plain w col) (hb : Below w.heap.size w w1) : RefB w1 col c b bl cap cs kA kc d := by
  have he : Ext (fun _ => False) w col w1 col := .of_below hb hp
  exact h.ext he (fun h => h) (fun h => h)
theorem RefB.put_now (h : RefB w col c b bl cap cs kA kc d) (hc0 : c ≠ 0) (hp : Plain w col) {i : Nat} (hi : i < d.l.length) (hb : Below w.heap.size w w1) {G : Option Addr} {x : List UInt8} (cp : Nat) (hG : Sl w1 G (bytesV x)) (hGb : ∀ ad, G = some ad → w.heap.size ≤ ad.block) :
    ∃ cs', RefB (w1.setCell ⟨bl, i * 3, none⟩ (.slice G x.length cp)) col c b bl cap cs' kA kc { d with l := d.l.set i { d.l[i] with now := x } } := by
  have h1 := h.below hp hb
  obtain ⟨A1, c1, A2, c2, r0, r1, r2, s1, s2, k1, k2⟩ := h1.at_ i hi
  have hlt : i * 3 < cs.size := (Array.getElem?_eq_some_iff.1 r0).1
  refine ⟨_, h1.put hc0 (f := 0) (by omega) _ _ ⟨G, cp, A2, c2, ?_, ?_, ?_, hG, s2, fun hn ad ha => hp _ (hGb ad ha), k2⟩⟩
  · rw [Array.getElem?_setIfInBounds, if_pos (by omega), if_pos (by omega)]
  · rw [Array.getElem?_setIfInBounds, if_neg (by omega)]; exact r1
  · rw [Array.getElem?_setIfInBounds, if_neg (by omega)]; exact r2
theorem RefB.put_sure (h : RefB w col c b bl cap cs kA kc d) (hc0 : c ≠ 0) (hp : Plain w col) {i : Nat} (hi : i < d.l.length) (hb : Below w.heap.size w w1) {G : Option Addr} {x : List UInt8} (cp : Nat) (hG : Sl w1 G (bytesV x)) (hGb : ∀ ad, G = some ad → w.heap.size ≤ ad.block) :
    ∃ cs', RefB (w1.setCell ⟨bl, i * 3 + 1, none⟩ (.slice G x.length cp)) col c b bl cap cs' kA kc { d with l := d.l.set i { d.l[i] with sure := x } } := by
  have h1 := h.below hp hb
  obtain ⟨A1, c1, A2, c2, r0, r1, r2, s1, s2, k1, k2⟩ := h1.at_ i hi
  have hlt : i * 3 + 1 < cs.size := (Array.getElem?_eq_some_iff.1 r1).1
  refine ⟨_, h1.put hc0 (f := 1) (by omega) _ _ ⟨A1, c1, G, cp, ?_, ?_, ?_, s1, hG, k1, fun hn ad ha => hp _ (hGb ad ha)⟩⟩
  · rw [Array.getElem?_setIfInBounds, if_neg (by omega)]; exact r0
  · rw [Array.getElem?_setIfInBounds, if_pos (by omega), if_pos (by omega)]
  · rw [Array.getElem?_setIfInBounds, if_neg (by omega)]; exact r2
theorem RefB.put_wr (h : RefB w col c b bl cap cs kA kc d) (hc0 : c ≠ 0) {i : Nat} (hi : i < d.l.length) (x : Bool) :
    ∃ cs', RefB (w.setCell ⟨bl, i * 3 + 2, none⟩ (.bool x)) col c b bl cap cs' kA kc { d with l := d.l.set i { d.l[i] with wr := x } } := by
  obtain ⟨A1, c1, A2, c2, r0, r1, r2, s1, s2, k1, k2⟩ := h.at_ i hi
  have hlt : i * 3 + 2 < cs.size := (Array.getElem?_eq_some_iff.1 r2).1
  refine ⟨_, h.put hc0 (f := 2) (by omega) _ _ ⟨A1, c1, A2, c2, ?_, ?_, ?_, s1, s2, k1, k2⟩⟩
  · rw [Array.getElem?_setIfInBounds, if_neg (by omega)]; exact r0
  · rw [Array.getElem?_setIfInBounds, if_neg (by omega)]; exact r1
  · rw [Array.getElem?_setIfInBounds, if_pos (by omega), if_pos (by omega)]
theorem RefB.at' (h : RefB w col c b bl cap cs kA kc d) {L : List Sec} (hL : d.l = L) {i : Nat} {s : Sec} (hs : L[i]? = some s) : RowAt w col cs i s := by
  subst hL
  obtain ⟨hi, rfl⟩ := List.getElem?_eq_some_iff.1 hs
  exact h.at_ i hi
theorem RefB.put_now' (h : RefB w col c b bl cap cs kA kc d) (hc0 : c ≠ 0) (hp : Plain w col) {L : List Sec} (hL : d.l = L) {i : Nat} {s : Sec} (hs : L[i]? = some s) (hb : Below w.heap.size w w1) {G : Option Addr} {x : List UInt8} (cp : Nat) (hG : Sl w1 G (bytesV x)) (hGb : ∀ ad, G = some ad → w.heap.size ≤ ad.block) :
    ∃ cs', RefB (w1.setCell ⟨bl, i * 3, none⟩ (.slice G x.length cp)) col c b bl cap cs' kA kc { d with l := L.set i { s with now := x } } := by
  subst hL
  obtain ⟨hi, rfl⟩ := List.getElem?_eq_some_iff.1 hs
  exact h.put_now hc0 hp hi hb cp hG hGb
theorem RefB.put_sure' (h : RefB w col c b bl cap cs kA kc d) (hc0 : c ≠ 0) (hp : Plain w col) {L : List Sec} (hL : d.l = L) {i : Nat} {s : Sec} (hs : L[i]? = some s) (hb : Below w.heap.size w w1) {G : Option Addr} {x : List UInt8} (cp : Nat) (hG : Sl w1 G (bytesV x)) (hGb : ∀ ad, G = some ad → w.heap.size ≤ ad.block) :
    ∃ cs', RefB (w1.setCell ⟨bl, i * 3 + 1, none⟩ (.slice G x.length cp)) col c b bl cap cs' kA kc { d with l := L.set i { s with sure := x } } := by
  subst hL
  obtain ⟨hi, rfl⟩ := List.getElem?_eq_some_iff.1 hs
  exact h.put_sure hc0 hp hi hb cp hG hGb
theorem RefB.put_wr' (h : RefB w col c b bl cap cs kA kc d) (hc0 : c ≠ 0) {L : List Sec} (hL : d.l = L) {i : Nat} {s : Sec} (hs : L[i]? = some s) (x : Bool) :
    ∃ cs', RefB (w.setCell ⟨bl, i * 3 + 2, none⟩ (.bool x)) col c b bl cap cs' kA kc { d with l := L.set i { s with wr := x } } := by
  subst hL
  obtain ⟨hi, rfl⟩ := List.getElem?_eq_some_iff.1 hs
  exact h.put_wr hc0 hi x
/-- what a copying of a field reads: 'f' the field read, 'g' the one that is written -/
def CopyS (b bl n cap i f : Nat) (A : Option Addr) (k : Nat) (x : List UInt8) (W : World) : Prop :=
  W.cell? ⟨b, 0, none⟩ = some (.slice (some ⟨bl, 0, none⟩) n cap) ∧ W.cell? ⟨bl, i * 3 + f, none⟩ = some (.slice A x.length k) ∧ Sl W A (bytesV x)
theorem RefB.copyS (h : RefB w col c b bl cap cs kA kc d) {i f : Nat} {A : Option Addr} {k : Nat} {x : List UInt8} (hq : w.cell? ⟨bl, i * 3 + f, none⟩ = some (.slice A x.length k)) (hs : Sl w A (bytesV x)) (hW : Below w.heap.size w W) : CopyS b bl d.l.length cap i f A k x W :=
  ⟨(hW.cell h.hd.lt).trans h.c0, (hW.cell h.row.lt).trans hq, hs.below hW (Nat.le_refl _)⟩
theorem RefB.copyT (h : RefB w col c b bl cap cs kA kc d) (hc0 : c ≠ 0) {i f g : Nat} {A : Option Addr} {k : Nat} {x : List UInt8} (hq : w.cell? ⟨bl, i * 3 + f, none⟩ = some (.slice A x.length k)) (hs : Sl w A (bytesV x)) (hk : SlCol col 0 A x.length) (hfg : f ≠ g) (hW : Below w.heap.size w W) (v : Value) :
    CopyS b bl d.l.length cap i f A k x (W.setCell ⟨bl, i * 3 + g, none⟩ v) := by
  obtain ⟨a1, a2, a3⟩ := h.copyS hq hs hW
  refine ⟨(World.cell?_setCell_other W _ _ v (fun e => h.hne (by injection e with e1; exact e1.symm))).trans a1, (World.cell?_setCell_other W _ _ v (fun e => by injection e with e1 e2; omega)).trans a2, a3.setCell v (fun ad ha hn e => hc0 ?_)⟩
  have := hk (by simpa [bytesV] using hn) ad ha
  rw [e] at this
  exact h.cbl.symm.trans this
theorem RefB.rowCell (h : RefB w col c b bl cap cs kA kc d) {j : Nat} {v : Value} (hv : w.cell? ⟨bl, j, none⟩ = some v) (hW : Below w.heap.size w W) : W.cell? ⟨bl, j, none⟩ = some v ∧ W.frozen? ⟨bl, j, none⟩ = false :=
  ⟨(hW.cell h.row.lt).trans hv, (h.row.below hW h.row.lt).frozen _⟩
end
def RefAt (w : World) (col : Col) (c b bl cap kc : Nat) (kA : Option Addr) (d : Dev) (wr : World) : Prop := Ext (· = c) w col wr col ∧ ∃ cs, RefB wr col c b bl cap cs kA kc d
def RefGoneRel (w : World) (col : Col) (c b bl cap kc : Nat) (kA : Option Addr) (d : Dev) (keep : List Int) (x y : Value) (wr : World) : Prop :=
  ∃ i, i ≤ d.l.length ∧ x = .int .i64 (cntW i d.l : Nat) ∧ y = .int .i64 (i : Int) ∧ RefAt w col c b bl cap kc kA { d with l := goneMid keep i d.l } wr
def RefHalfRel (w : World) (col : Col) (c b bl cap kc : Nat) (kA : Option Addr) (d : Dev) (keep : List Int) (i : Nat) (s : Sec) (x : Value) (wr : World) : Prop :=
  x = .int .i64 ((cntW i d.l + (if s.wr then 1 else 0) : Nat) : Int) ∧ RefAt w col c b bl cap kc kA { d with l := (goneMid keep i d.l).set i (if s.wr then { s with now := s.lost keep (cntW i d.l) } else s) } wr
theorem half_put {w wr w1 : World} {col : Col} {c b bl cap kc i cp : Nat} {cs : Array Value} {kA : Option Addr} {d : Dev} {keep : List Int} {s : Sec} {G : Option Addr} {x : List UInt8} (he : Ext (· = c) w col wr col)
    (h : RefB wr col c b bl cap cs kA kc { d with l := goneMid keep i d.l }) (hc0 : c ≠ 0) (hi : i < d.l.length) (hg : (goneMid keep i d.l)[i]'(by rw [goneMid_len]; exact hi) = s) (hw : s.wr = true) (hl : s.lost keep (cntW i d.l) = x)
    (hb : Below wr.drew.heap.size wr.drew w1) (hG : Sl w1 G (bytesV x)) (hGb : ∀ ad, G = some ad → wr.drew.heap.size ≤ ad.block) :
    RefHalfRel w col c b bl cap kc kA d keep i s (.int .i64 ((cntW i d.l : Int) + 1)) (w1.setCell ⟨bl, i * 3, none⟩ (.slice G x.length cp)) := by
  have hlt : i < ({ d with l := goneMid keep i d.l } : Dev).l.length := by show i < (goneMid keep i d.l).length; rw [goneMid_len]; exact hi
  obtain ⟨cs2, h2⟩ := h.put_now hc0 he.plain hlt (Below.undrew hb) cp hG hGb
  refine ⟨by rw [hw]; rfl, (he.below (Below.undrew hb)).setCell _ _ (.inl h.cbl), cs2, ?_⟩
  rw [if_pos hw, hl]
  rw [show ({ d with l := goneMid keep i d.l } : Dev).l[i] = s from hg] at h2
  exact h2
set_option maxRecDepth 100000 in
set_option maxHeartbeats 1600000 in
theorem refdev_gone {w : World} {col : Col} {c b bl cap kc : Nat} {cs : Array Value} {kA : Option Addr} {d : Dev} (h : RefB w col c b bl cap cs kA kc d) (hp : Plain w col) (hc0 : c ≠ 0) (hall : ∀ s ∈ d.l, s.now.length = 128 ∧ s.sure.length = 128) (hfew : d.l.length ≤ 8192)
    (keep : List Int) (A : Option Addr) (kcap : Nat) (hks : Sl w A (keep.map intV)) (hAc : SlCol col 0 A keep.length) (hin : ∀ x ∈ keep, -9223372036854775808 ≤ x ∧ x ≤ 9223372036854775807) :
    Calls Try.prog 61 #[.pointer (some ⟨b, 0, none⟩), .slice A keep.length kcap] w fun e w' => e = .returned (.tuple #[]) ∧ RefAt w col c b bl cap kc kA (d.gone keep) w' := by
  have H := Lib.hid h
  have HK := Lib.hid (And.intro hks hAc)
  clear h hks hAc
  go_enter Try.func61, Try.ntmps61
  go_wp2
  go_loopw [4, 5] (fun x y wr => RefGoneRel w col c b bl cap kc kA d keep x y wr) (fun _ y _ => d.l.length - (intOf y).toNat)
  case atStart => exact ⟨0, Nat.zero_le _, rfl, rfl, Ext.refl hp, cs, H.out⟩
  case round =>
    obtain ⟨i, hi, rfl, rfl, he, cs1, h1⟩ := hrel
    have HE := Lib.hid he
    have H1 := Lib.hid h1
    have c0 : wr.cell? ⟨b, 0, none⟩ = some (.slice (some ⟨bl, 0, none⟩) d.l.length cap) := by have := h1.c0; rwa [goneMid_len] at this
    clear he h1
    by_cases hlt : i < d.l.length
    · have i0 : (0 : Int) ≤ (i : Int) := by omega
      have i1 : (i : Int) < (d.l.length : Int) := by omega
      have hg := goneMid_at keep hlt (by rw [goneMid_len]; exact hlt)
      have hr := H1.out.at_ i (by rw [show ({ d with l := goneMid keep i d.l } : Dev).l = goneMid keep i d.l from rfl, goneMid_len]; exact hlt)
      rw [show ({ d with l := goneMid keep i d.l } : Dev).l[i]'(by rw [show ({ d with l := goneMid keep i d.l } : Dev).l = goneMid keep i d.l from rfl, goneMid_len]; exact hlt) = d.l[i] from hg] at hr
      have HSS := Lib.hid (hall d.l[i] (List.getElem_mem _))
      have HG := Lib.hid (And.intro hg (goneMid_step keep hlt))
      clear hg
      have hcn := cntW_le i d.l
      have HC := Lib.hid (cntW_step hlt)
      generalize d.l[i] = s at *
      obtain ⟨A1, k1, A2, k2, r0, r1, r2, s1, s2, l1, l2⟩ := hr
      have q0 : wr.cell? ⟨bl, i * 3, none⟩ = some (.slice A1 s.now.length k1) := by rw [H1.out.row.cell]; exact r0
      have q1 : wr.cell? ⟨bl, i * 3 + 1, none⟩ = some (.slice A2 s.sure.length k2) := by rw [H1.out.row.cell]; exact r1
      have q2 : wr.cell? ⟨bl, i * 3 + 2, none⟩ = some (.bool s.wr) := by rw [H1.out.row.cell]; exact r2
      have HR := Lib.hid (And.intro r0 (And.intro r1 (And.intro r2 (And.intro s1 (And.intro s2 (And.intro l1 l2))))))
      clear r0 r1 r2 s1 s2 l1 l2
      have hdl : ({ d with l := goneMid keep i d.l } : Dev).l.length = d.l.length := goneMid_len ..
      have HS : Hid (∀ W, Below wr.heap.size wr W → CopyS b bl d.l.length cap i 1 A2 k2 s.sure W) := Lib.hid fun W hW => by have := H1.out.copyS q1 HR.out.2.2.2.2.1 hW; rwa [hdl] at this
      have HT : Hid (∀ W v, Below wr.heap.size wr W → CopyS b bl d.l.length cap i 1 A2 k2 s.sure (W.setCell ⟨bl, i * 3, none⟩ v)) := Lib.hid fun W v hW => by have := H1.out.copyT hc0 (g := 0) q1 HR.out.2.2.2.2.1 HR.out.2.2.2.2.2.2 (by omega) hW v; rwa [hdl] at this
      have HQ : Hid (∀ W, Below wr.heap.size wr W → W.cell? ⟨bl, i * 3, none⟩ = some (.slice A1 s.now.length k1) ∧ W.frozen? ⟨bl, i * 3, none⟩ = false) := Lib.hid fun W hW => H1.out.rowCell q0 hW
      clear hdl
      go_upto_if 23 with fail
      go_cut [4] (fun x wx => RefHalfRel w col c b bl cap kc kA d keep i s x wx)
      case first =>
        cases hw : s.wr <;> rw [hw] at q2
        · go_wp2_with fail
          go_meet
          refine ⟨by rw [hw]; rfl, HE.out, cs1, ?_⟩
          rw [hw]
          have := H1.out
          have e : (goneMid keep i d.l).set i s = goneMid keep i d.l := by rw [← HG.out.1]; exact List.set_getElem_self _
          simpa [e] using this
        · have HW := Lib.hid hw
          by_cases hk : keep.length ≤ cntW i d.l
          · have Hl : Hid (s.lost keep (cntW i d.l) = s.sure) := by
              unfold Hid Sec.lost; rw [if_pos (by simp [List.getD, List.getElem?_eq_none hk])]
            generalize hcc : cntW i d.l = k at *
            have HCC := Lib.hid hcc
            clear hcc
            go_wp2_with fail
            refine (bring 0 2 (by omega) (by omega) (by omega) (by omega)).mono ?_
            rintro e w1 ⟨rfl, rfl⟩
            go_wp2_with fail
            go_region_held3 (fun w' => w'.cell? ⟨b, 0, none⟩ = some (.slice (some ⟨bl, 0, none⟩) d.l.length cap) ∧ w'.cell? ⟨bl, i * 3 + 1, none⟩ = some (.slice A2 s.sure.length k2) ∧ Sl w' A2 (bytesV s.sure))
              (first | exact HS.out _ ((Below.refl _ _).drew) | exact HS.out _ (Below.undrew hbel) | exact HT.out _ _ (Below.undrew hbel)) ((go_at_call 40; refine (copyBytes_sl (HS.out _ ((Below.refl _ _).drew)).2.2 _ (by rw [HSS.out.2]; omega)).mono ?_; rintro e w1 ⟨G, cp, rfl, hG, hGb, hbel⟩; obtain ⟨hq0, hz0⟩ := HQ.out _ (Below.undrew hbel)))
            go_wp2
            go_meet
            rw [← HCC.out] at Hl ⊢
            exact half_put HE.out H1.out hc0 hlt HG.out.1 HW.out Hl.out hbel hG hGb
          · have hkl : cntW i d.l < keep.length := by omega
            obtain ⟨kb, ko, rfl, -, hkc⟩ := HK.out.1.at_ (k := cntW i d.l) (by simpa using hkl)
            have hkb : col kb = 0 := HK.out.2 (by omega) _ rfl
            have ckeep : wr.cell? ⟨kb, ko + cntW i d.l, none⟩ = some (.int .i64 keep[cntW i d.l]) := by
              have hlt' : kb < w.heap.size := World.block_lt_of_cell? w ⟨kb, _, _⟩ hkc
              rw [HE.out.cell (p := ⟨kb, _, _⟩) hlt' (show ¬ col kb = c by rw [hkb]; exact Ne.symm hc0)]
              simpa [intV] using hkc
            have hkin := hin keep[cntW i d.l] (List.getElem_mem _)
            have Hl : Hid (s.lost keep (cntW i d.l) = if keep[cntW i d.l] % 2 = 0 then s.sure else s.now) := by
              unfold Hid Sec.lost; rw [show keep.getD (cntW i d.l) 0 = keep[cntW i d.l] from by simp [List.getD, hkl]]
            clear hkc hkb
            generalize keep[cntW i d.l] = kv at *
            generalize hcc : cntW i d.l = k at *
            have HCC := Lib.hid hcc
            clear hcc
            have j0 : (0 : Int) ≤ (k : Int) := by omega
            have j1 : (k : Int) < (keep.length : Int) := by omega
            by_cases hev : kv % 2 = 0
            · go_wp2_with fail
              refine (bring kv 2 (by omega) hkin.1 hkin.2 (by omega)).mono ?_
              rintro e w1 ⟨rfl, rfl⟩
              have hev2 : kv % ((2 : Nat) : Int) = 0 := hev
              rw [hev2]
              rw [if_pos hev] at Hl
              clear hev hev2
              go_wp2_with fail
              go_region_held3 (fun w' => w'.cell? ⟨b, 0, none⟩ = some (.slice (some ⟨bl, 0, none⟩) d.l.length cap) ∧ w'.cell? ⟨bl, i * 3 + 1, none⟩ = some (.slice A2 s.sure.length k2) ∧ Sl w' A2 (bytesV s.sure))
                (first | exact HS.out _ ((Below.refl _ _).drew) | exact HS.out _ (Below.undrew hbel) | exact HT.out _ _ (Below.undrew hbel)) ((go_at_call 40; refine (copyBytes_sl (HS.out _ ((Below.refl _ _).drew)).2.2 _ (by rw [HSS.out.2]; omega)).mono ?_; rintro e w1 ⟨G, cp, rfl, hG, hGb, hbel⟩; obtain ⟨hq0, hz0⟩ := HQ.out _ (Below.undrew hbel)))
              go_wp2
              go_meet
              rw [← HCC.out] at Hl ⊢
              exact half_put HE.out H1.out hc0 hlt HG.out.1 HW.out Hl.out hbel hG hGb
            · go_wp2_with fail
              refine (bring kv 2 (by omega) hkin.1 hkin.2 (by omega)).mono ?_
              rintro e w1 ⟨rfl, rfl⟩
              have hev2 : kv % ((2 : Nat) : Int) = 1 := by show kv % 2 = 1; omega
              rw [hev2]
              rw [if_neg hev] at Hl
              clear hev hev2
              go_wp2_with fail
              go_meet
              rw [← HCC.out] at Hl ⊢
              refine ⟨by rw [HW.out]; rfl, HE.out, cs1, ?_⟩
              rw [if_pos HW.out, Hl.out]
              have := H1.out
              have e : (goneMid keep i d.l).set i { s with now := s.now } = goneMid keep i d.l := by rw [← HG.out.1]; exact List.set_getElem_self _
              simpa [e] using this
      case rest =>
        obtain ⟨rfl, he, cs2, h2⟩ := hcut
        clear q0 q1 q2 c0 HS HT HQ
        have HE2 := Lib.hid he
        clear he
        have hdl : (goneMid keep i d.l).length = d.l.length := goneMid_len ..
        have hU : (if s.wr then { s with now := s.lost keep (cntW i d.l) } else s).now.length = 128 := by
          split
          · show (s.lost keep (cntW i d.l)).length = 128
            unfold Sec.lost; split
            · exact HSS.out.2
            · exact HSS.out.1
          · exact HSS.out.1
        have hV : (goneMid keep i d.l).set i ⟨(if s.wr then { s with now := s.lost keep (cntW i d.l) } else s).now, (if s.wr then { s with now := s.lost keep (cntW i d.l) } else s).now, false⟩ = goneMid keep (i + 1) d.l := by
          rw [← HG.out.2]; congr 1; unfold goneOne; cases s.wr <;> rfl
        have hC2 : cntW (i + 1) d.l = cntW i d.l + (if s.wr then 1 else 0) := HC.out
        generalize (if s.wr then { s with now := s.lost keep (cntW i d.l) } else s) = t at *
        generalize cntW i d.l + (if s.wr then 1 else 0) = kk at *
        have hL1 : ((goneMid keep i d.l).set i t).length = d.l.length := by rw [List.length_set]; exact hdl
        have hL2 : ((goneMid keep i d.l).set i t)[i]? = some t := by rw [List.getElem?_set_self (by omega)]
        have hL3 : ((goneMid keep i d.l).set i t).set i ⟨t.now, t.now, false⟩ = goneMid keep (i + 1) d.l := by rw [List.set_set]; exact hV
        clear hdl hV
        generalize (goneMid keep i d.l).set i t = L at *
        have HL := Lib.hid (And.intro hL1 (And.intro hL2 (And.intro hL3 (And.intro hU hC2))))
        have c0 : wc.cell? ⟨b, 0, none⟩ = some (.slice (some ⟨bl, 0, none⟩) d.l.length cap) := by have := h2.c0; rwa [show ({ d with l := L } : Dev).l.length = d.l.length from hL1] at this
        obtain ⟨A1', k1', A2', k2', r0, r1, r2, s1, s2, l1, l2⟩ := h2.at' rfl hL2
        clear hL1 hL2 hL3 hU hC2
        have q0 : wc.cell? ⟨bl, i * 3, none⟩ = some (.slice A1' t.now.length k1') := by rw [h2.row.cell]; exact r0
        have q1 : wc.cell? ⟨bl, i * 3 + 1, none⟩ = some (.slice A2' t.sure.length k2') := by rw [h2.row.cell]; exact r1
        have H2 := Lib.hid h2
        have HS : Hid (∀ W, Below wc.heap.size wc W → CopyS b bl d.l.length cap i 0 A1' k1' t.now W) := Lib.hid fun W hW => by have := H2.out.copyS (f := 0) q0 s1 hW; rwa [show ({ d with l := L } : Dev).l.length = d.l.length from HL.out.1] at this
        have HT : Hid (∀ W v, Below wc.heap.size wc W → CopyS b bl d.l.length cap i 0 A1' k1' t.now (W.setCell ⟨bl, i * 3 + 1, none⟩ v)) := Lib.hid fun W v hW => by have := H2.out.copyT hc0 (f := 0) (g := 1) q0 s1 l1 (by omega) hW v; rwa [show ({ d with l := L } : Dev).l.length = d.l.length from HL.out.1] at this
        have HQ : Hid (∀ W, Below wc.heap.size wc W → W.cell? ⟨bl, i * 3 + 1, none⟩ = some (.slice A2' t.sure.length k2') ∧ W.frozen? ⟨bl, i * 3 + 1, none⟩ = false) := Lib.hid fun W hW => H2.out.rowCell q1 hW
        clear r0 r1 r2 s1 s2 l1 l2 h2
        go_wp2_with fail
        go_region_held3 (fun w' => w'.cell? ⟨b, 0, none⟩ = some (.slice (some ⟨bl, 0, none⟩) d.l.length cap) ∧ w'.cell? ⟨bl, i * 3, none⟩ = some (.slice A1' t.now.length k1') ∧ Sl w' A1' (bytesV t.now))
          (first | exact HS.out _ ((Below.refl _ _).drew) | exact HS.out _ (Below.undrew hbel) | exact HT.out _ _ (Below.undrew hbel)) ((go_at_call 40; refine (copyBytes_sl (HS.out _ ((Below.refl _ _).drew)).2.2 _ (by rw [HL.out.2.2.2.1]; omega)).mono ?_; rintro e w1 ⟨G, cp, rfl, hG, hGb, hbel⟩; obtain ⟨hq0, hz0⟩ := HQ.out _ (Below.undrew hbel)))
        have he3 : Ext (· = c) w col (w1.setCell ⟨bl, i * 3 + 1, none⟩ (.slice G t.now.length cp)) col := (HE2.out.below (Below.undrew hbel)).setCell _ _ (.inl H2.out.cbl)
        obtain ⟨cs3, h3⟩ := H2.out.put_sure' hc0 HE2.out.plain rfl HL.out.2.1 (Below.undrew hbel) cp hG hGb
        have H3 := Lib.hid h3
        have HE3 := Lib.hid he3
        clear he3 h3 hG hGb hbel hq0 hz0 HS HT HQ
        generalize w1.setCell ⟨bl, i * 3 + 1, none⟩ (.slice G t.now.length cp) = w4 at *
        have hL4 : (L.set i { t with sure := t.now })[i]? = some { t with sure := t.now } := by rw [List.getElem?_set_self (by have := HL.out.1; omega)]
        have p0 : w4.cell? ⟨b, 0, none⟩ = some (.slice (some ⟨bl, 0, none⟩) d.l.length cap) := by have := H3.out.c0; rwa [show ({ d with l := L.set i { t with sure := t.now } } : Dev).l.length = d.l.length from (List.length_set ..).trans HL.out.1] at this
        obtain ⟨A1'', k1'', A2'', k2'', x0, x1, x2, -⟩ := H3.out.at' rfl hL4
        have p2 : w4.cell? ⟨bl, i * 3 + 2, none⟩ = some (.bool t.wr) := by rw [H3.out.row.cell]; exact x2
        have z2 := H3.out.row.frozen (i * 3 + 2)
        have HL4 := Lib.hid hL4
        clear x0 x1 x2 q0 q1 c0 hL4
        go_wp2
        go_roundw
        case rel =>
          obtain ⟨cs5, h5⟩ := H3.out.put_wr' hc0 rfl HL4.out false
          refine ⟨i + 1, by omega, by rw [HL.out.2.2.2.2], by go_num, HE3.out.setCell _ _ (.inl H3.out.cbl), cs5, ?_⟩
          rw [List.set_set] at h5
          rw [← HL.out.2.2.1]; exact h5
        case measure => simp [intOf]; omega
    · obtain rfl : i = d.l.length := by omega
      have HG : Hid (goneMid keep d.l.length d.l = goneL keep 0 d.l) := Lib.hid (goneMid_all keep d.l)
      have p1 := H1.out.c1
      have p3 := H1.out.c3
      have p5 := H1.out.c5
      have p6 := H1.out.c6
      have z1 := H1.out.hd.frozen 1
      have z3 := H1.out.hd.frozen 3
      have z5 := H1.out.hd.frozen 5
      have z6 := H1.out.hd.frozen 6
      go_wp2
      go_end0
      have hb := (((H1.out.hd.set_ 5 (.bool true)).set_ 1 (.int .i64 (-1))).set_ 3 (.int .i64 (-1))).set_ 6 (.bool false)
      have hoth : ∀ q, q ≠ b → ((((wr.setCell ⟨b, 5, none⟩ (.bool true)).setCell ⟨b, 1, none⟩ (.int .i64 (-1))).setCell ⟨b, 3, none⟩ (.int .i64 (-1))).setCell ⟨b, 6, none⟩ (.bool false)).heap[q]? = wr.heap[q]? :=
        fun q hq => (Below.heap_setCell _ _ _ _ hq).trans ((Below.heap_setCell _ _ _ _ hq).trans ((Below.heap_setCell _ _ _ _ hq).trans (Below.heap_setCell _ _ _ _ hq)))
      refine ⟨rfl, (((HE.out.setCell _ _ (.inl H1.out.cb)).setCell _ _ (.inl H1.out.cb)).setCell _ _ (.inl H1.out.cb)).setCell _ _ (.inl H1.out.cb), cs1, ?_⟩
      refine H1.out.head hc0 (d' := d.gone keep) kA kc ?_ hoth (by simp) (by show goneL keep 0 d.l = _; exact HG.out.symm) (H1.out.keepOld hc0 hoth (by simp)) H1.out.kcol
      rw [HG.out] at hb
      simpa [Dev.gone] using hb
end Go.Proofs.Ytfcialmdediojaa
