/-
  The law's pair: step: Save, and bytes written.
-/
import Derived.Test.YtfcialmdediojaaPairC
namespace Go.Proofs.Ytfcialmdediojaa
set_option linter.unusedVariables false
set_option linter.unusedSimpArgs false
open Go.RowKit
theorem saveS_small {d : Dev} {t q : Nat} {first : Int} {x : List UInt8} {B : Nat} (ht : t ≤ B) (hq : q ≤ 1) : (saveS d t q first x).1.2.1 ≤ B + 1 ∧ (saveS d t q first x).1.2.2 ≤ 1 := by
  have hq' : (if t = 0 then 0 else 1 - q) ≤ 1 := by split <;> omega
  unfold saveS
  simp only
  generalize (if t = 0 then 0 else 1 - q) = q' at *
  repeat' split
  all_goals (refine ⟨?_, ?_⟩ <;> simp <;> omega)
set_option maxRecDepth 100000 in
set_option maxHeartbeats 1600000 in
theorem pair_step_save_none {w : World} {col : Col} {p : Nat} {first : Int} {d : Dev} {D : Value} {K N : Int} {DA KA : Option Addr} {data : List UInt8} {keep : List Int} {dc kc B : Nat} (h : PairP w col p first d none) (hp : Plain w col) (hf : -1000000 ≤ first ∧ first ≤ 1000000)
    (hst : StB B none) (hB : 9007199254740991 ≤ B ∧ B ≤ 1152921504606846976) (hD : DeedV w col D K N DA data KA keep dc kc) (hk : K % (6 : Nat) = 0) :
    Calls Try.prog 21 #[.pointer (some ⟨p, 0, none⟩), .int .i64 first, D] w (StepEnd w col p first B) := by
  have hD0 := hD
  obtain ⟨⟨rfl, hkc⟩, -, -, -, -, hK, hN, hks, hfew⟩ := hD
  obtain ⟨db, du, vs, vm, hb, hd, hu, hps, hc5⟩ := h
  have H := Lib.hid (SS.begin hD0 hb hd hu hps hc5 hp)
  clear hD0 hb hd hu hps
  go_enter Try.func21, Try.ntmps21
  go_wp2_with fail
  refine (bring K 6 (by omega) hK.1 hK.2 (by omega)).mono ?_
  rintro e w1 ⟨rfl, rfl⟩
  rw [hk]
  clear hk
  go_wp2_with fail
  generalize w.alloc (.cells #[.int .i64 K, .int .i64 N, .slice DA data.length dc, .slice KA keep.length kc] 43) = w1 at *
  generalize w.heap.size = g at *
  have H1 := H
  clear H
  obtain ⟨rfl, rfl⟩ := H1.out.hs
  have g2 : w1.cell? ⟨g, 2, none⟩ = some (.slice DA data.length dc) := H1.out.hg.cell 2
  go_wp2_with fail
  refine (copyBytes_sl H1.out.hda _ (by omega)).mono ?_
  rintro e w2 ⟨G, cp, rfl, hG, hGb, hbel⟩
  have H2 := Lib.hid (H1.out.ext (.of_below hbel H1.out.hx.plain))
  clear hG hGb hbel g2 H1
  have p3 : w2.cell? ⟨p, 3, none⟩ = some (.pointer none) := H2.out.hb.cell 3
  have HF : Hid (StepEnd w col p first B (.returned (.tuple #[])) w2) := Lib.hid ⟨rfl, _, _, _, H2.out.hx, H2.out.pair, trivial⟩
  go_wp2
  go_end0
  exact HF.out
set_option maxRecDepth 100000 in
set_option maxHeartbeats 1600000 in
theorem pair_step_save_some {w : World} {col : Col} {p : Nat} {first : Int} {d : Dev} {D : Value} {t q : Nat} {K N : Int} {DA KA : Option Addr} {data : List UInt8} {keep : List Int} {dc kc B : Nat} (h : PairP w col p first d (some (t, q))) (hp : Plain w col) (hf : -1000000 ≤ first ∧ first ≤ 1000000)
    (hst : StB B (some (t, q))) (hB : 9007199254740991 ≤ B ∧ B ≤ 1152921504606846976) (hD : DeedV w col D K N DA data KA keep dc kc) (hk : K % (6 : Nat) = 0) :
    Calls Try.prog 21 #[.pointer (some ⟨p, 0, none⟩), .int .i64 first, D] w (StepEnd w col p first B) := by
  have hD0 := hD
  obtain ⟨⟨rfl, hkc⟩, -, -, -, -, hK, hN, hks, hfew⟩ := hD
  obtain ⟨db, du, vs, vm, hb, hd, hu, hps, hc5⟩ := h
  have H := Lib.hid (SS.begin hD0 hb hd hu hps hc5 hp)
  clear hD0 hb hd hu hps
  go_enter Try.func21, Try.ntmps21
  go_wp2_with fail
  refine (bring K 6 (by omega) hK.1 hK.2 (by omega)).mono ?_
  rintro e w1 ⟨rfl, rfl⟩
  rw [hk]
  clear hk
  go_wp2_with fail
  generalize w.alloc (.cells #[.int .i64 K, .int .i64 N, .slice DA data.length dc, .slice KA keep.length kc] 43) = w1 at *
  generalize w.heap.size = g at *
  have H1 := H
  clear H
  obtain ⟨s, m, rfl, rfl, -, -, -, -⟩ := H1.out.hs
  have g2 : w1.cell? ⟨g, 2, none⟩ = some (.slice DA data.length dc) := H1.out.hg.cell 2
  go_wp2_with fail
  refine (copyBytes_sl H1.out.hda _ (by omega)).mono ?_
  rintro e w2 ⟨G, cp, rfl, hG, hGb, hbel⟩
  have H2 := Lib.hid (H1.out.ext (.of_below hbel H1.out.hx.plain))
  have HG := Lib.hid (And.intro hG (show SlCol col 0 G data.length from fun _ ad ha => H1.out.hx.plain _ (hGb ad ha)))
  clear hG hGb hbel g2 H1
  have p3 : w2.cell? ⟨p, 3, none⟩ = some (.pointer (some ⟨m, 0, none⟩)) := H2.out.hb.cell 3
  have p4 : w2.cell? ⟨p, 4, none⟩ = some (.bool true) := H2.out.hb.cell 4
  have z4 := H2.out.hb.frozen 4
  have hpg : p ≠ g := H2.out.hb.ne_ H2.out.hg (by decide)
  have HS : Hid (∀ W cV, Ext (fun q => 1 ≤ q ∧ q ≤ 4) w2 col W cV → W.cell? ⟨p, 1, none⟩ = some (.pointer (some ⟨s, 0, none⟩)) ∧ W.cell? ⟨p, 3, none⟩ = some (.pointer (some ⟨m, 0, none⟩)) ∧ W.cell? ⟨g, 2, none⟩ = some (.slice DA data.length dc) ∧ W.cell? ⟨p, 4, none⟩ = some (.bool true)) := Lib.hid fun W cV hW => by
    have h1 := H2.out.hb.ext hW (by rw [H2.out.cp]; omega)
    have h2 := H2.out.hg.ext hW (by rw [H2.out.cg]; omega)
    exact ⟨h1.cell 1, h1.cell 3, h2.cell 2, h1.cell 4⟩
  have HST : Hid (∀ (W : World), W.cell? ⟨p, 1, none⟩ = some (.pointer (some ⟨s, 0, none⟩)) ∧ W.cell? ⟨p, 3, none⟩ = some (.pointer (some ⟨m, 0, none⟩)) ∧ W.cell? ⟨g, 2, none⟩ = some (.slice DA data.length dc) ∧ W.cell? ⟨p, 4, none⟩ = some (.bool true) → (W.setCell ⟨p, 4, none⟩ (.bool true)).cell? ⟨p, 1, none⟩ = some (.pointer (some ⟨s, 0, none⟩)) ∧ (W.setCell ⟨p, 4, none⟩ (.bool true)).cell? ⟨p, 3, none⟩ = some (.pointer (some ⟨m, 0, none⟩)) ∧ (W.setCell ⟨p, 4, none⟩ (.bool true)).cell? ⟨g, 2, none⟩ = some (.slice DA data.length dc) ∧ (W.setCell ⟨p, 4, none⟩ (.bool true)).cell? ⟨p, 4, none⟩ = some (.bool true)) := Lib.hid fun W hW =>
    ⟨(World.cell?_setCell_other W _ _ _ (by simp)).trans hW.1, (World.cell?_setCell_other W _ _ _ (by simp)).trans hW.2.1, (World.cell?_setCell_other W _ _ _ (by simp)).trans hW.2.2.1, World.cell?_setCell_same W _ _ hW.2.2.2⟩
  have hpl := H2.out.hx.plain
  go_wp2_with fail
  obtain ⟨_, _, e1, e2, hsl, hrs, cs, cm⟩ := H2.out.hs
  injection e1 with e1; injection e1 with e1; injection e1 with e1; subst e1
  injection e2 with e2; injection e2 with e2; injection e2 with e2; subst e2
  have HSV := Lib.hid (slots_save (w := w2.drew) (H2.out.hD.ext (C := fun _ => False) (Ext.refl hpl).drew (fun h => h)) hsl cs (by omega) (by omega) (by omega) hpl.drew hf (show t ≤ 1152921504606846976 by have := hst.1; omega) hst.2 cp HG.out.1.drew HG.out.2 (by omega))
  have HRS : Hid (∀ W, Ext (fun q => q = 1 ∨ q = 2) w2 col W col → Calls Try.prog 41 #[.pointer (some ⟨m, 0, none⟩), .slice DA data.length dc] W fun e w' =>
      e = .returned (.int .i64 (saveS d t q first data).2) ∧ Ext (fun q => q = 3 ∨ q = 4) W col w' col ∧ RefP w' col 3 du (saveS d t q first data).1.1 ∧ RefSlo w' m du first (saveS d t q first data).1.2.1 (saveS d t q first data).1.2.2) := Lib.hid fun W hW =>
    refslots_save (H2.out.hR.ext hW (by omega) (by omega)) (Blk.ext hrs hW (by rw [cm]; omega)) cm (by omega) (by omega) (by omega) hW.plain hf (show t ≤ 1152921504606846976 by have := hst.1; omega) hst.2 dc (H2.out.hda.ext hW (by rw [bytesV_len]; exact H2.out.cda) (by omega)) H2.out.cda (by omega)
  have HEQ : Hid (∀ W, Ext (fun q => 1 ≤ q ∧ q ≤ 4) w2 col W col → Calls Try.prog 38 #[.slice G data.length cp, .slice DA data.length dc] W fun e w' => e = .returned (.bool true) ∧ Drawn W w') := Lib.hid fun W hW => by
    have := eqBytes (HG.out.1.ext hW (by rw [bytesV_len]; exact HG.out.2) (by omega)) (H2.out.hda.ext hW (by rw [bytesV_len]; exact H2.out.cda) (by omega)) cp dc (by omega)
    rwa [show (data == data) = true from by simp] at this
  have HSM := Lib.hid (saveS_small (d := d) (first := first) (x := data) hst.1 hst.2)
  have HC := Lib.hid (And.intro hsl (And.intro hrs (And.intro cs cm)))
  clear hsl hrs cs cm hst
  generalize saveS d t q first data = r at *
  obtain ⟨⟨d1, t1, q1⟩, er⟩ := r
  simp only at *
  have hbe : ((er : Int) == er) = true := by simp
  go_region_held3 (fun w' => w'.cell? ⟨p, 1, none⟩ = some (.pointer (some ⟨s, 0, none⟩)) ∧ w'.cell? ⟨p, 3, none⟩ = some (.pointer (some ⟨m, 0, none⟩)) ∧ w'.cell? ⟨g, 2, none⟩ = some (.slice DA data.length dc) ∧ w'.cell? ⟨p, 4, none⟩ = some (.bool true))
    (first | exact HS.out _ _ (Ext.refl hpl).drew | exact HS.out _ _ hx3 | exact HS.out _ _ hx4 | exact HS.out _ _ hx5 | exact HST.out _ (HS.out _ _ hx5))
    (first
      | ((go_at_call 4; refine HSV.out.mono ?_; rintro e w3 ⟨rfl, hex3, hd3, hs3⟩; have hy3 : Ext (fun q => q = 1 ∨ q = 2) w2 col w3 col := (Ext.refl hpl).drew.trans hex3; have hx3 : Ext (fun q => 1 ≤ q ∧ q ≤ 4) w2 col w3 col := hy3.mono (fun q hq => by omega)))
      | ((go_at_call 41; refine (HRS.out _ hy3).mono ?_; rintro e w4 ⟨rfl, hex4, hr4, hm4⟩; have hx4 : Ext (fun q => 1 ≤ q ∧ q ≤ 4) w2 col w4 col := hx3.trans (hex4.mono (fun q hq => by omega))))
      | ((go_at_call 38; refine (HEQ.out _ hx4).mono ?_; rintro e w5 ⟨rfl, hd5⟩; have hx5 : Ext (fun q => 1 ≤ q ∧ q ≤ 4) w2 col w5 col := hx4.below (Below.drawn (Below.refl _ _) hd5); have zz := (H2.out.hb.ext hx5 (by rw [H2.out.cp]; omega)).frozen 4)))
  have hex5 : Ext (· = 5) w5 col (w5.setCell ⟨p, 4, none⟩ (.bool true)) col := (Ext.refl hx5.plain).setCell _ _ (.inl H2.out.cp)
  have hb5 : Blk (w5.setCell ⟨p, 4, none⟩ (.bool true)) p 62 #[.pointer (some ⟨db, 0, none⟩), .pointer (some ⟨s, 0, none⟩), .pointer (some ⟨du, 0, none⟩), .pointer (some ⟨m, 0, none⟩), .bool true] := by
    simpa using (H2.out.hb.ext hx5 (by rw [H2.out.cp]; omega)).set_ 4 (.bool true)
  have hdw : Ext (fun _ => False) w4 col w5 col := (Ext.refl hx4.plain).below (Below.drawn (Below.refl _ _) hd5)
  have hy5 : Ext (fun q => q = 3 ∨ q = 4) w3 col w5 col := hex4.trans (hdw.mono (fun _ h => h.elim))
  have HF : Hid (StepEnd w col p first B (.returned (.tuple #[])) (w5.setCell ⟨p, 4, none⟩ (.bool true))) := Lib.hid ⟨rfl, col, d1, some (t1, q1), (H2.out.hx.trans (hx5.mono (fun q hq => hq.1))).trans (hex5.mono (fun q hq => by subst hq; show 1 ≤ 5; omega)),
    ⟨db, du, _, _, hb5, (hd3.ext hy5 (by omega)).ext hex5 (by omega), (hr4.ext hdw (fun h => h) (fun h => h)).ext hex5 (by omega) (by omega), PairSt.ext (w := w5) (st := some (t1, q1)) ⟨s, m, rfl, rfl, (show SlotsB w5 s db first t1 q1 by obtain ⟨A', n', k', hs'⟩ := hs3; exact ⟨A', n', k', hs'.ext hy5 (by rw [HC.out.2.2.1]; omega)⟩), Blk.ext hm4 hdw (fun h => h), HC.out.2.2.1, HC.out.2.2.2⟩ hex5 (by omega) (by omega), H2.out.cp⟩, HSM.out⟩
  clear hx3 hy3 hx4 hx5 hex3 hex4 hex5 hd3 hs3 hr4 hm4 hd5 zz hb5 hy5 hdw
  go_wp2
  go_end0
  exact HF.out
end Go.Proofs.Ytfcialmdediojaa
