/-
  The law's pair: opens.
-/
import Derived.Test.YtfcialmdediojaaRefSlotsD
namespace Go.Proofs.Ytfcialmdediojaa
set_option linter.unusedVariables false
set_option linter.unusedSimpArgs false
open Go.RowKit
def PairSt (w : World) (col : Col) (vs vm : Value) (first : Int) (db du : Nat) : Option (Nat × Nat) → Prop
  | none => vs = .pointer none ∧ vm = .pointer none
  | some (t, q) => ∃ s m, vs = .pointer (some ⟨s, 0, none⟩) ∧ vm = .pointer (some ⟨m, 0, none⟩) ∧ SlotsB w s db first t q ∧ RefSlo w m du first t q ∧ col s = 2 ∧ col m = 4
/-- the pair at block p: both devices are d, both slots (if any) st -/
def PairP (w : World) (col : Col) (p : Nat) (first : Int) (d : Dev) (st : Option (Nat × Nat)) : Prop :=
  ∃ db du vs vm, Blk w p 62 #[.pointer (some ⟨db, 0, none⟩), vs, .pointer (some ⟨du, 0, none⟩), vm, .bool true] ∧ DevP w col 1 db d ∧ RefP w col 3 du d ∧ PairSt w col vs vm first db du st ∧ col p = 5
def MyC (q : Nat) : Prop := 1 ≤ q
theorem PairSt.ext {w w' : World} {col col' : Col} {C : Nat → Prop} {vs vm : Value} {first : Int} {db du : Nat} {st : Option (Nat × Nat)} (h : PairSt w col vs vm first db du st) (he : Ext C w col w' col') (h2 : ¬ C 2) (h4 : ¬ C 4) : PairSt w' col' vs vm first db du st := by
  cases st with
  | none => exact h
  | some p =>
    obtain ⟨s, m, e1, e2, ⟨A, n, k, hs⟩, hm, c2, c4⟩ := h
    have hm' : Blk w m _ _ := hm
    exact ⟨s, m, e1, e2, ⟨A, n, k, hs.ext he (by rw [c2]; exact h2)⟩, Blk.ext hm' he (by rw [c4]; exact h4), (he.same _ hs.lt).trans c2, (he.same _ hm'.lt).trans c4⟩
theorem openS_small (d : Dev) (first : Int) : ∀ r, (openS d first).1 = some r → r.1 ≤ 9007199254740991 ∧ r.2.1 ≤ 1 ∧ r.2.2.length ≤ 100 := by
  have h0 := readS_small d first
  have h1 := readS_small d (first + 1)
  intro r hr
  unfold openS openOf at hr
  split at hr
  · cases hr
  split at hr
  · cases hr
  split at hr
  · cases hr
  split at hr
  · injection hr with hr; subst hr; exact ⟨h1.1, by simp, h1.2⟩
  · injection hr with hr; subst hr; exact ⟨h0.1, by simp, h0.2⟩
/-- the slots' state behind an Open -/
def openSt (d : Dev) (first : Int) : Option (Nat × Nat) := (openS d first).1.map fun r => (r.1, r.2.1)
set_option maxRecDepth 100000 in
set_option maxHeartbeats 1600000 in
theorem pair_opens {w : World} {col : Col} {p : Nat} {first : Int} {d : Dev} {st : Option (Nat × Nat)} (h : PairP w col p first d st) (hp : Plain w col) (hf : -1000000 ≤ first ∧ first ≤ 1000000) :
    Calls Try.prog 20 #[.pointer (some ⟨p, 0, none⟩), .int .i64 first] w fun e w' => e = .returned (.tuple #[]) ∧ ∃ col', Ext MyC w col w' col' ∧ PairP w' col' p first d (openSt d first) := by
  obtain ⟨db, du, vs, vm, hb, hd, hu, hst, hc5⟩ := h
  have c0 : w.cell? ⟨p, 0, none⟩ = some (.pointer (some ⟨db, 0, none⟩)) := hb.cell 0
  have H := Lib.hid (And.intro hb (And.intro hd hu))
  clear hb hd hu hst
  have hst : openSt d first = (openS d first).1.map fun r => (r.1, r.2.1) := rfl
  have ho1 := slots_open H.out.2.1 hp first hf
  have ho2 := fun (w1 : World) (hb : Below w.heap.size w w1) => refslots_open (w := w1) (H.out.2.2.ext (.of_below hb hp) (C := fun _ => False) (fun h => h) (fun h => h)) (hp.size_le hb.size) first hf
  have hsm := openS_small d first
  generalize openSt d first = r at *
  generalize openS d first = os at *
  obtain ⟨a, er⟩ := os
  have HO := Lib.hid (And.intro ho1 ho2)
  clear ho1 ho2
  have hpl : p < w.heap.size := H.out.1.lt
  cases a with
  | none =>
    obtain rfl : r = none := hst
    go_enter Try.func20, Try.ntmps20
    go_wp2_with fail
    refine HO.out.1.mono ?_
    rintro e w1 ⟨hb1, rfl⟩
    have HB1 := Lib.hid hb1
    have d2 : w1.cell? ⟨p, 2, none⟩ = some (.pointer (some ⟨du, 0, none⟩)) := (hb1.cell (p := ⟨p, 2, none⟩) hpl).trans (H.out.1.cell 2)
    clear hb1
    go_wp2_with fail
    refine (HO.out.2 w1 HB1.out).mono ?_
    rintro e w2 ⟨hb2, rfl⟩
    have HB2 := Lib.hid (Below.trans' HB1.out hb2 HB1.out.size)
    have hbp := H.out.1.below HB2.out hpl
    have d4 : w2.cell? ⟨p, 4, none⟩ = some (.bool true) := hbp.cell 4
    have hbe : ((er : Int) == er) = true := by simp
    have HBP := Lib.hid hbp
    clear hb2 hbp
    go_wp2_with fail
    refine (eqBytes (l := []) (m := []) (Sl.nil _ _) (Sl.nil _ _) 0 0 (by simp)).mono ?_
    rintro e w3 ⟨rfl, hdr⟩
    have hb3 : Blk w3 p 62 #[.pointer (some ⟨db, 0, none⟩), vs, .pointer (some ⟨du, 0, none⟩), vm, .bool true] := by obtain ⟨q, rfl⟩ := hdr; exact HBP.out.drewN q
    have he3 : Below w.heap.size w w3 := Below.drawn HB2.out hdr
    have H3 := Lib.hid (And.intro hb3 he3)
    have z1 := hb3.frozen 1
    have z3 := hb3.frozen 3
    have z4 := hb3.frozen 4
    have e1 : w3.cell? ⟨p, 1, none⟩ = some vs := hb3.cell 1
    have e3 : w3.cell? ⟨p, 3, none⟩ = some vm := hb3.cell 3
    have e4 : w3.cell? ⟨p, 4, none⟩ = some (.bool true) := hb3.cell 4
    clear hb3 he3 hdr d2 d4 c0
    go_wp2
    go_end0
    have hx : Ext (· = 5) w3 col (((w3.setCell ⟨p, 4, none⟩ (.bool true)).setCell ⟨p, 1, none⟩ (.pointer none)).setCell ⟨p, 3, none⟩ (.pointer none)) col := (((Ext.refl (hp.size_le H3.out.2.size)).setCell _ _ (.inl hc5)).setCell _ _ (.inl hc5)).setCell _ _ (.inl hc5)
    have hx0 : Ext (fun _ => False) w col w3 col := .of_below H3.out.2 hp
    refine ⟨rfl, col, (hx0.mono (fun _ h => h.elim)).trans (hx.mono (fun q h => by subst h; show 1 ≤ 5; omega)), db, du, .pointer none, .pointer none, ?_, (H.out.2.1.ext hx0 (fun h => h)).ext hx (by omega), (H.out.2.2.ext hx0 (fun h => h) (fun h => h)).ext hx (by omega) (by omega), ⟨rfl, rfl⟩, hc5⟩
    simpa using ((H3.out.1.set_ 4 (.bool true)).set_ 1 (.pointer none)).set_ 3 (.pointer none)
  | some a =>
    obtain ⟨t, q, x⟩ := a
    obtain rfl : r = some (t, q) := hst
    go_enter Try.func20, Try.ntmps20
    go_wp2_with fail
    refine HO.out.1.mono ?_
    rintro e w1 ⟨hb1, s, G, cp, rfl, ⟨SA, sn, sk, hs1⟩, hsw, hG, hGb⟩
    have HB1 := Lib.hid hb1
    have d2 : w1.cell? ⟨p, 2, none⟩ = some (.pointer (some ⟨du, 0, none⟩)) := (hb1.cell (p := ⟨p, 2, none⟩) hpl).trans (H.out.1.cell 2)
    have HS1 := Lib.hid (And.intro hs1 (And.intro hG hGb))
    clear hb1 hs1 hG hGb
    go_wp2_with fail
    refine (HO.out.2 w1 HB1.out).mono ?_
    rintro e w2 ⟨hb2, m, G', cp', rfl, hm2, hmw, hG', hGb'⟩
    have HB2 := Lib.hid (Below.trans' HB1.out hb2 HB1.out.size)
    have HS2 := Lib.hid (And.intro (HS1.out.1.below hb2 HS1.out.1.lt) (And.intro (HS1.out.2.1.below hb2 (Nat.le_refl _)) (And.intro hm2 hG')))
    have hbp := H.out.1.below HB2.out hpl
    have d4 : w2.cell? ⟨p, 4, none⟩ = some (.bool true) := hbp.cell 4
    have hbe : ((er : Int) == er) = true := by simp
    have HBP := Lib.hid hbp
    have hsl : s < w1.heap.size := HS1.out.1.lt
    clear hb2 hbp hm2 hG' hGb'
    go_wp2_with fail
    have hxl : x.length ≤ 100 := (hsm _ rfl).2.2
    refine (eqBytes HS2.out.2.1 HS2.out.2.2.2 cp cp' (by omega)).mono ?_
    rintro e w3 ⟨rfl, hdr⟩
    rw [show (x == x) = true from by simp]
    have hb3 : Blk w3 p 62 #[.pointer (some ⟨db, 0, none⟩), vs, .pointer (some ⟨du, 0, none⟩), vm, .bool true] := by obtain ⟨q, rfl⟩ := hdr; exact HBP.out.drewN q
    have he3 : Below w.heap.size w w3 := Below.drawn HB2.out hdr
    have hs3 : Blk w3 s 31 #[.pointer (some ⟨db, 0, none⟩), .int .i64 first, .int .i64 (q : Int), .int .i64 (t : Int), .slice SA sn sk] := by obtain ⟨qq, rfl⟩ := hdr; exact HS2.out.1.drewN qq
    have hm3 : RefSlo w3 m du first t q := by obtain ⟨qq, rfl⟩ := hdr; exact HS2.out.2.2.1
    have H3 := Lib.hid (And.intro hb3 (And.intro he3 (And.intro hs3 hm3)))
    have z1 := hb3.frozen 1
    have z3 := hb3.frozen 3
    have z4 := hb3.frozen 4
    have e1 : w3.cell? ⟨p, 1, none⟩ = some vs := hb3.cell 1
    have e3 : w3.cell? ⟨p, 3, none⟩ = some vm := hb3.cell 3
    have e4 : w3.cell? ⟨p, 4, none⟩ = some (.bool true) := hb3.cell 4
    clear hb3 he3 hdr d2 d4 c0 hs3 hm3
    go_wp2
    go_end0
    have hx : Ext (· = 5) w3 col (((w3.setCell ⟨p, 4, none⟩ (.bool true)).setCell ⟨p, 1, none⟩ (.pointer (some ⟨s, 0, none⟩))).setCell ⟨p, 3, none⟩ (.pointer (some ⟨m, 0, none⟩))) col := (((Ext.refl (hp.size_le H3.out.2.1.size)).setCell _ _ (.inl hc5)).setCell _ _ (.inl hc5)).setCell _ _ (.inl hc5)
    have hx0 : Ext (fun _ => False) w col w3 col := .of_below H3.out.2.1 hp
    have hm3 : Blk w3 m _ _ := H3.out.2.2.2
    have hsm' : s ≠ m := H3.out.2.2.1.ne_ hm3 (by decide)
    have hmw' : w.heap.size ≤ m := Nat.le_trans HB1.out.size hmw
    have hsz := hx.size
    have he5 := (((hx0.mono (C' := (· = 5)) (fun _ h => h.elim)).trans hx).paint 2 hsw (Nat.lt_of_lt_of_le H3.out.2.2.1.lt hsz)).paint 4 hmw' (Nat.lt_of_lt_of_le hm3.lt hsz)
    have hs5 := H3.out.2.2.1.ext hx (by rw [hp s hsw]; omega)
    have hm5 := Blk.ext hm3 hx (by rw [hp m hmw']; omega)
    refine ⟨rfl, _, he5.mono (fun q h => by subst h; show 1 ≤ 5; omega), db, du, .pointer (some ⟨s, 0, none⟩), .pointer (some ⟨m, 0, none⟩), ?_, H.out.2.1.ext he5 (by omega), H.out.2.2.ext he5 (by omega) (by omega), ⟨s, m, rfl, rfl, ⟨_, _, _, hs5⟩, hm5, ?_, ?_⟩, ?_⟩
    · simpa using ((H3.out.1.set_ 4 (.bool true)).set_ 1 (.pointer (some ⟨s, 0, none⟩))).set_ 3 (.pointer (some ⟨m, 0, none⟩))
    · rw [Col.set_other _ hsm']; exact Col.set_same ..
    · exact Col.set_same ..
    · rw [he5.same p hpl]; exact hc5
end Go.Proofs.Ytfcialmdediojaa
