/-
  The law's pair: step.
-/
import Derived.Test.YtfcialmdediojaaPairB
namespace Go.Proofs.Ytfcialmdediojaa
set_option linter.unusedVariables false
set_option linter.unusedSimpArgs false
open Go.RowKit
/-- a deed's memory -/
structure DeedV (w : World) (col : Col) (D : Value) (K N : Int) (DA : Option Addr) (data : List UInt8) (KA : Option Addr) (keep : List Int) (dc kc : Nat) : Prop where
  form : D = .agg #[.int .i64 K, .int .i64 N, .slice DA data.length dc, .slice KA keep.length kc] ∧ keep.length ≤ kc
  hdata : Sl w DA (bytesV data)
  dcol : SlCol col 0 DA data.length
  hkeep : Sl w KA (keep.map intV)
  kcol : SlCol col 0 KA keep.length
  hK : -9223372036854775808 ≤ K ∧ K ≤ 9223372036854775807
  hN : -9223372036854775808 ≤ N ∧ N ≤ 9223372036854775807
  ks : ∀ x ∈ keep, -9223372036854775808 ≤ x ∧ x ≤ 9223372036854775807
  few : data.length ≤ 1000000 ∧ keep.length ≤ 1000000
def StB (B : Nat) : Option (Nat × Nat) → Prop
  | none => True
  | some (t, q) => t ≤ B ∧ q ≤ 1
theorem StB.up {B : Nat} {st : Option (Nat × Nat)} (h : StB B st) : StB (B + 1) st := by
  cases st with
  | none => trivial
  | some a => exact ⟨Nat.le_succ_of_le h.1, h.2⟩
theorem StB.open_ (d : Dev) (first : Int) {B : Nat} (hB : 9007199254740991 ≤ B) : StB B (openSt d first) := by
  have h := openS_small d first
  unfold openSt
  generalize (openS d first).1 = r at *
  cases r with
  | none => trivial
  | some r => obtain ⟨a, b, c⟩ := r; have h := h _ rfl; exact ⟨by have := h.1; simp at this ⊢; omega, h.2.1⟩
def StepEnd (w : World) (col : Col) (p : Nat) (first : Int) (B : Nat) (e : Ending) (w' : World) : Prop :=
  e = .returned (.tuple #[]) ∧ ∃ col' d' st', Ext MyC w col w' col' ∧ PairP w' col' p first d' st' ∧ StB (B + 1) st'
/-- a step on the way: the pair, the deed's copy; the devices may part for a while -/
structure SS (w : World) (col : Col) (p g db du : Nat) (vs vm : Value) (first : Int) (st : Option (Nat × Nat)) (K N : Int) (DA KA : Option Addr) (data : List UInt8) (keep : List Int) (dc kc : Nat) (dP dR : Dev) (W : World) (cW : Col) : Prop where
  hx : Ext MyC w col W cW
  hb : Blk W p 62 #[.pointer (some ⟨db, 0, none⟩), vs, .pointer (some ⟨du, 0, none⟩), vm, .bool true]
  hg : Blk W g 43 #[.int .i64 K, .int .i64 N, .slice DA data.length dc, .slice KA keep.length kc]
  hD : DevP W cW 1 db dP
  hR : RefP W cW 3 du dR
  hs : PairSt W cW vs vm first db du st
  cp : cW p = 5
  cg : cW g = 0
  gw : w.heap.size ≤ g
  hda : Sl W DA (bytesV data)
  cda : SlCol cW 0 DA data.length
  hka : Sl W KA (keep.map intV)
  cka : SlCol cW 0 KA keep.length
section
variable {w : World} {col : Col} {p g db du : Nat} {vs vm : Value} {first : Int} {st : Option (Nat × Nat)} {K N : Int} {DA KA : Option Addr} {data : List UInt8} {keep : List Int} {dc kc : Nat} {dP dR d' : Dev} {W W' : World} {cW cW' : Col}
theorem SS.slc {A : Option Addr} {xs : List Value} {n : Nat} (h : Sl W A xs) (hn : n = xs.length) (hc : SlCol cW 0 A n) {C : Nat → Prop} (he : Ext C W cW W' cW') : SlCol cW' 0 A n :=
  hc.ext he fun ad ha h0 => by subst hn; exact h.lt ad ha h0
theorem SS.ext (h : SS w col p g db du vs vm first st K N DA KA data keep dc kc dP dR W cW) (he : Ext (fun _ => False) W cW W' cW') : SS w col p g db du vs vm first st K N DA KA data keep dc kc dP dR W' cW' :=
  ⟨h.hx.trans (he.mono fun _ h => h.elim), h.hb.ext he (fun h => h), h.hg.ext he (fun h => h), h.hD.ext he (fun h => h), h.hR.ext he (fun h => h) (fun h => h), h.hs.ext he (fun h => h) (fun h => h), (he.same _ h.hb.lt).trans h.cp, (he.same _ h.hg.lt).trans h.cg, h.gw,
   h.hda.ext he (by rw [bytesV_len]; exact h.cda) (fun h => h), SS.slc h.hda (by rw [bytesV_len]) h.cda he, h.hka.ext he (by rw [List.length_map]; exact h.cka) (fun h => h), SS.slc h.hka (by simp) h.cka he⟩
theorem SS.drew (h : SS w col p g db du vs vm first st K N DA KA data keep dc kc dP dR W cW) : SS w col p g db du vs vm first st K N DA KA data keep dc kc dP dR W.drew cW := h.ext (Ext.refl h.hx.plain).drew
theorem SS.dev (h : SS w col p g db du vs vm first st K N DA KA data keep dc kc dP dR W cW) (he : Ext (· = 1) W cW W' cW') (hd : DevP W' cW' 1 db d') : SS w col p g db du vs vm first st K N DA KA data keep dc kc d' dR W' cW' :=
  ⟨h.hx.trans (he.mono fun q hq => by subst hq; exact Nat.le_refl _), h.hb.ext he (by rw [h.cp]; omega), h.hg.ext he (by rw [h.cg]; omega), hd, h.hR.ext he (by omega) (by omega), h.hs.ext he (by omega) (by omega), (he.same _ h.hb.lt).trans h.cp, (he.same _ h.hg.lt).trans h.cg, h.gw,
   h.hda.ext he (by rw [bytesV_len]; exact h.cda) (by omega), SS.slc h.hda (by rw [bytesV_len]) h.cda he, h.hka.ext he (by rw [List.length_map]; exact h.cka) (by omega), SS.slc h.hka (by simp) h.cka he⟩
theorem SS.ref (h : SS w col p g db du vs vm first st K N DA KA data keep dc kc dP dR W cW) (he : Ext (· = 3) W cW W' cW') (hd : RefP W' cW' 3 du d') : SS w col p g db du vs vm first st K N DA KA data keep dc kc dP d' W' cW' :=
  ⟨h.hx.trans (he.mono fun q hq => by subst hq; show 1 ≤ 3; omega), h.hb.ext he (by rw [h.cp]; omega), h.hg.ext he (by rw [h.cg]; omega), h.hD.ext he (by omega), hd, h.hs.ext he (by omega) (by omega), (he.same _ h.hb.lt).trans h.cp, (he.same _ h.hg.lt).trans h.cg, h.gw,
   h.hda.ext he (by rw [bytesV_len]; exact h.cda) (by omega), SS.slc h.hda (by rw [bytesV_len]) h.cda he, h.hka.ext he (by rw [List.length_map]; exact h.cka) (by omega), SS.slc h.hka (by simp) h.cka he⟩
theorem SS.facts (h : SS w col p g db du vs vm first st K N DA KA data keep dc kc dP dR W cW) : W.cell? ⟨p, 0, none⟩ = some (.pointer (some ⟨db, 0, none⟩)) ∧ W.cell? ⟨p, 2, none⟩ = some (.pointer (some ⟨du, 0, none⟩)) ∧ W.cell? ⟨g, 1, none⟩ = some (.int .i64 N) ∧ W.cell? ⟨g, 3, none⟩ = some (.slice KA keep.length kc) :=
  ⟨h.hb.cell 0, h.hb.cell 2, h.hg.cell 1, h.hg.cell 3⟩
theorem SS.pair (h : SS w col p g db du vs vm first st K N DA KA data keep dc kc d' d' W cW) : PairP W cW p first d' st := ⟨db, du, vs, vm, h.hb, h.hD, h.hR, h.hs, h.cp⟩
theorem SS.begin (h : DeedV w col (.agg #[.int .i64 K, .int .i64 N, .slice DA data.length dc, .slice KA keep.length kc]) K N DA data KA keep dc kc)
    (hb : Blk w p 62 #[.pointer (some ⟨db, 0, none⟩), vs, .pointer (some ⟨du, 0, none⟩), vm, .bool true]) (hD : DevP w col 1 db d') (hR : RefP w col 3 du d') (hs : PairSt w col vs vm first db du st) (hc : col p = 5) (hp : Plain w col) :
    SS w col p w.heap.size db du vs vm first st K N DA KA data keep dc kc d' d' (w.alloc (.cells #[.int .i64 K, .int .i64 N, .slice DA data.length dc, .slice KA keep.length kc] 43)) col :=
  have he : Ext (fun _ => False) w col (w.alloc (.cells #[.int .i64 K, .int .i64 N, .slice DA data.length dc, .slice KA keep.length kc] 43)) col := (Ext.refl hp).alloc _
  ⟨he.mono fun _ h => h.elim, hb.ext he (fun h => h), Blk.new w _ _, hD.ext he (fun h => h), hR.ext he (fun h => h) (fun h => h), hs.ext he (fun h => h) (fun h => h), hc, hp _ (Nat.le_refl _), Nat.le_refl _,
   h.hdata.alloc _, h.dcol, h.hkeep.alloc _, h.kcol⟩
end
set_option maxRecDepth 100000 in
set_option maxHeartbeats 1600000 in
theorem pair_step_refuse {w : World} {col : Col} {p : Nat} {first : Int} {d : Dev} {st : Option (Nat × Nat)} {D : Value} {K N : Int} {DA KA : Option Addr} {data : List UInt8} {keep : List Int} {dc kc B : Nat} (h : PairP w col p first d st) (hp : Plain w col) (hf : -1000000 ≤ first ∧ first ≤ 1000000)
    (hst : StB B st) (hB : 9007199254740991 ≤ B ∧ B ≤ 1152921504606846976) (hD : DeedV w col D K N DA data KA keep dc kc) (hk : K % (6 : Nat) = 4) :
    Calls Try.prog 21 #[.pointer (some ⟨p, 0, none⟩), .int .i64 first, D] w (StepEnd w col p first B) := by
  have hD0 := hD
  obtain ⟨⟨rfl, hkc⟩, -, -, -, -, hK, hN, hks, hfew⟩ := hD
  obtain ⟨db, du, vs, vm, hb, hd, hu, hps, hc5⟩ := h
  have H := Lib.hid (SS.begin hD0 hb hd hu hps hc5 hp)
  clear hD0 hb hd hu hps
  go_enter Try.func21, Try.ntmps21
  go_wp2_with fail
  refine (bring K 6 (by omega) hK.1 hK.2 (by omega)).mono ?_
  rintro e w1 ⟨rfl, rfl⟩
  rw [hk]
  clear hk
  go_wp2_with fail
  generalize w.alloc (.cells #[.int .i64 K, .int .i64 N, .slice DA data.length dc, .slice KA keep.length kc] 43) = w1 at *
  generalize w.heap.size = g at *
  have H1 := H
  clear H
  go_region_held3 (fun w' => w'.cell? ⟨p, 0, none⟩ = some (.pointer (some ⟨db, 0, none⟩)) ∧ w'.cell? ⟨p, 2, none⟩ = some (.pointer (some ⟨du, 0, none⟩)) ∧ w'.cell? ⟨g, 1, none⟩ = some (.int .i64 N) ∧ w'.cell? ⟨g, 3, none⟩ = some (.slice KA keep.length kc))
    (first | exact H1.out.drew.facts | exact hn.facts)
    ((go_at_call 47; refine (sector_refuse H1.out.drew.hD H1.out.drew.hx.plain N hN).mono ?_; rintro e w2 ⟨rfl, hex, hdn⟩; have hn := H1.out.drew.dev hex hdn))
  have H2 := Lib.hid hn
  clear hn hex hdn H1
  go_wp2_with fail
  go_region_held3 (fun w' => w'.cell? ⟨p, 0, none⟩ = some (.pointer (some ⟨db, 0, none⟩)) ∧ w'.cell? ⟨p, 2, none⟩ = some (.pointer (some ⟨du, 0, none⟩)) ∧ w'.cell? ⟨g, 1, none⟩ = some (.int .i64 N) ∧ w'.cell? ⟨g, 3, none⟩ = some (.slice KA keep.length kc))
    (first | exact H2.out.drew.facts | exact hn.facts)
    ((go_at_call 48; refine (refdev_refuse H2.out.drew.hR H2.out.drew.hx.plain (by omega) N hN).mono ?_; rintro e w3 ⟨rfl, hex, hdn⟩; have hn := H2.out.drew.ref hex hdn))
  have H3 := Lib.hid hn
  clear hn hex hdn H2
  go_wp2
  have HF : Hid (StepEnd w col p first B (.returned (.tuple #[])) w3) := Lib.hid ⟨rfl, _, _, _, H3.out.hx, H3.out.pair, hst.up⟩
  go_end0
  exact HF.out
set_option maxRecDepth 100000 in
set_option maxHeartbeats 1600000 in
theorem pair_step_fail {w : World} {col : Col} {p : Nat} {first : Int} {d : Dev} {st : Option (Nat × Nat)} {D : Value} {K N : Int} {DA KA : Option Addr} {data : List UInt8} {keep : List Int} {dc kc B : Nat} (h : PairP w col p first d st) (hp : Plain w col) (hf : -1000000 ≤ first ∧ first ≤ 1000000)
    (hst : StB B st) (hB : 9007199254740991 ≤ B ∧ B ≤ 1152921504606846976) (hD : DeedV w col D K N DA data KA keep dc kc) (hk : K % (6 : Nat) = 3) :
    Calls Try.prog 21 #[.pointer (some ⟨p, 0, none⟩), .int .i64 first, D] w (StepEnd w col p first B) := by
  have hD0 := hD
  obtain ⟨⟨rfl, hkc⟩, -, -, -, -, hK, hN, hks, hfew⟩ := hD
  obtain ⟨db, du, vs, vm, hb, hd, hu, hps, hc5⟩ := h
  have H := Lib.hid (SS.begin hD0 hb hd hu hps hc5 hp)
  clear hD0 hb hd hu hps
  go_enter Try.func21, Try.ntmps21
  go_wp2_with fail
  refine (bring K 6 (by omega) hK.1 hK.2 (by omega)).mono ?_
  rintro e w1 ⟨rfl, rfl⟩
  rw [hk]
  clear hk
  go_wp2_with fail
  generalize w.alloc (.cells #[.int .i64 K, .int .i64 N, .slice DA data.length dc, .slice KA keep.length kc] 43) = w1 at *
  generalize w.heap.size = g at *
  have H1 := H
  clear H
  have g1 := H1.out.facts.2.2.1
  go_wp2_with fail
  refine (bring N 6 (by omega) hN.1 hN.2 (by omega)).mono ?_
  rintro e w2 ⟨rfl, rfl⟩
  clear g1
  have hn6 : -9223372036854775808 ≤ N % (6 : Nat) ∧ N % (6 : Nat) ≤ 9223372036854775807 := by omega
  generalize N % (6 : Nat) = n at *
  go_wp2_with fail
  go_region_held3 (fun w' => w'.cell? ⟨p, 0, none⟩ = some (.pointer (some ⟨db, 0, none⟩)) ∧ w'.cell? ⟨p, 2, none⟩ = some (.pointer (some ⟨du, 0, none⟩)) ∧ w'.cell? ⟨g, 1, none⟩ = some (.int .i64 N) ∧ w'.cell? ⟨g, 3, none⟩ = some (.slice KA keep.length kc))
    (first | exact H1.out.drew.facts | exact hn.facts)
    ((go_at_call 45; refine (sector_fail H1.out.drew.hD H1.out.drew.hx.plain n hn6 _ H1.out.drew.hka (by omega) hks).mono ?_; rintro e w2 ⟨rfl, c2, hex, hdn⟩; have hn := H1.out.drew.dev hex hdn))
  have H2 := Lib.hid hn
  clear hn hex hdn H1
  go_wp2_with fail
  go_region_held3 (fun w' => w'.cell? ⟨p, 0, none⟩ = some (.pointer (some ⟨db, 0, none⟩)) ∧ w'.cell? ⟨p, 2, none⟩ = some (.pointer (some ⟨du, 0, none⟩)) ∧ w'.cell? ⟨g, 1, none⟩ = some (.int .i64 N) ∧ w'.cell? ⟨g, 3, none⟩ = some (.slice KA keep.length kc))
    (first | exact H2.out.drew.facts | exact hn.facts)
    ((go_at_call 46; refine (refdev_fail H2.out.drew.hR H2.out.drew.hx.plain (by omega) n hn6 _ H2.out.drew.hka (fun h0 ad ha => by rw [H2.out.drew.cka h0 ad ha]; omega) (by omega) hks).mono ?_; rintro e w3 ⟨rfl, hex, hdn⟩; have hn := H2.out.drew.ref hex hdn))
  have H3 := Lib.hid hn
  clear hn hex hdn H2
  go_wp2
  have HF : Hid (StepEnd w col p first B (.returned (.tuple #[])) w3) := Lib.hid ⟨rfl, _, _, _, H3.out.hx, H3.out.pair, hst.up⟩
  go_end0
  exact HF.out
set_option maxRecDepth 100000 in
set_option maxHeartbeats 1600000 in
theorem pair_step_crash {w : World} {col : Col} {p : Nat} {first : Int} {d : Dev} {st : Option (Nat × Nat)} {D : Value} {K N : Int} {DA KA : Option Addr} {data : List UInt8} {keep : List Int} {dc kc B : Nat} (h : PairP w col p first d st) (hp : Plain w col) (hf : -1000000 ≤ first ∧ first ≤ 1000000)
    (hst : StB B st) (hB : 9007199254740991 ≤ B ∧ B ≤ 1152921504606846976) (hD : DeedV w col D K N DA data KA keep dc kc) (hk : K % (6 : Nat) = 2) :
    Calls Try.prog 21 #[.pointer (some ⟨p, 0, none⟩), .int .i64 first, D] w (StepEnd w col p first B) := by
  have hD0 := hD
  obtain ⟨⟨rfl, hkc⟩, -, -, -, -, hK, hN, hks, hfew⟩ := hD
  obtain ⟨db, du, vs, vm, hb, hd, hu, hps, hc5⟩ := h
  have H := Lib.hid (SS.begin hD0 hb hd hu hps hc5 hp)
  clear hD0 hb hd hu hps
  go_enter Try.func21, Try.ntmps21
  go_wp2_with fail
  refine (bring K 6 (by omega) hK.1 hK.2 (by omega)).mono ?_
  rintro e w1 ⟨rfl, rfl⟩
  rw [hk]
  clear hk
  go_wp2_with fail
  generalize w.alloc (.cells #[.int .i64 K, .int .i64 N, .slice DA data.length dc, .slice KA keep.length kc] 43) = w1 at *
  generalize w.heap.size = g at *
  have H1 := H
  clear H
  go_region_held3 (fun w' => w'.cell? ⟨p, 0, none⟩ = some (.pointer (some ⟨db, 0, none⟩)) ∧ w'.cell? ⟨p, 2, none⟩ = some (.pointer (some ⟨du, 0, none⟩)) ∧ w'.cell? ⟨g, 1, none⟩ = some (.int .i64 N) ∧ w'.cell? ⟨g, 3, none⟩ = some (.slice KA keep.length kc))
    (first | exact H1.out.drew.facts | exact hn.facts)
    ((go_at_call 7; refine (sector_crash H1.out.drew.hD H1.out.drew.hx.plain _ H1.out.drew.hka hkc (fun h0 ad ha => by rw [H1.out.drew.cka h0 ad ha]; omega)).mono ?_; rintro e w2 ⟨rfl, hex, hdn⟩; have hn := H1.out.drew.dev hex hdn))
  have H2 := Lib.hid hn
  clear hn hex hdn H1
  go_wp2_with fail
  go_region_held3 (fun w' => w'.cell? ⟨p, 0, none⟩ = some (.pointer (some ⟨db, 0, none⟩)) ∧ w'.cell? ⟨p, 2, none⟩ = some (.pointer (some ⟨du, 0, none⟩)) ∧ w'.cell? ⟨g, 1, none⟩ = some (.int .i64 N) ∧ w'.cell? ⟨g, 3, none⟩ = some (.slice KA keep.length kc))
    (first | exact H2.out.drew.facts | exact hn.facts)
    ((go_at_call 42; refine (refdev_crash H2.out.drew.hR H2.out.drew.hx.plain (by omega) _ H2.out.drew.hka H2.out.drew.cka hks).mono ?_; rintro e w3 ⟨rfl, hex, hdn⟩; have hn := H2.out.drew.ref hex hdn))
  have H3 := Lib.hid hn
  clear hn hex hdn H2
  go_wp2_with fail
  have p0 := H3.out.facts.1
  go_wp2_with fail
  refine (sector_boot H3.out.hD H3.out.hx.plain).mono ?_
  rintro e w4 ⟨rfl, hex, hdn⟩
  have H4 := Lib.hid (H3.out.dev hex hdn)
  clear hex hdn p0 H3
  have p2 := H4.out.facts.2.1
  go_wp2_with fail
  refine (refdev_boot H4.out.hR H4.out.hx.plain (by omega)).mono ?_
  rintro e w5 ⟨rfl, hex, hdn⟩
  have H5 := Lib.hid (H4.out.ref hex hdn)
  clear hex hdn p2 H4
  go_wp2_with fail
  refine (pair_opens H5.out.pair H5.out.hx.plain hf).mono ?_
  rintro e w6 ⟨rfl, c6, hx6, hp6⟩
  have HF : Hid (StepEnd w col p first B (.returned (.tuple #[])) w6) := Lib.hid ⟨rfl, _, _, _, H5.out.hx.trans hx6, hp6, StB.open_ _ _ (by omega)⟩
  clear hx6 hp6
  go_wp2
  go_end0
  exact HF.out
set_option maxRecDepth 100000 in
set_option maxHeartbeats 1600000 in
theorem pair_step_opens {w : World} {col : Col} {p : Nat} {first : Int} {d : Dev} {st : Option (Nat × Nat)} {D : Value} {K N : Int} {DA KA : Option Addr} {data : List UInt8} {keep : List Int} {dc kc B : Nat} (h : PairP w col p first d st) (hp : Plain w col) (hf : -1000000 ≤ first ∧ first ≤ 1000000)
    (hst : StB B st) (hB : 9007199254740991 ≤ B ∧ B ≤ 1152921504606846976) (hD : DeedV w col D K N DA data KA keep dc kc) (hk : K % (6 : Nat) = 1) :
    Calls Try.prog 21 #[.pointer (some ⟨p, 0, none⟩), .int .i64 first, D] w (StepEnd w col p first B) := by
  have hD0 := hD
  obtain ⟨⟨rfl, hkc⟩, -, -, -, -, hK, hN, hks, hfew⟩ := hD
  obtain ⟨db, du, vs, vm, hb, hd, hu, hps, hc5⟩ := h
  have H := Lib.hid (SS.begin hD0 hb hd hu hps hc5 hp)
  clear hD0 hb hd hu hps
  go_enter Try.func21, Try.ntmps21
  go_wp2_with fail
  refine (bring K 6 (by omega) hK.1 hK.2 (by omega)).mono ?_
  rintro e w1 ⟨rfl, rfl⟩
  rw [hk]
  clear hk
  go_wp2_with fail
  generalize w.alloc (.cells #[.int .i64 K, .int .i64 N, .slice DA data.length dc, .slice KA keep.length kc] 43) = w1 at *
  generalize w.heap.size = g at *
  refine (pair_opens H.out.pair H.out.hx.plain hf).mono ?_
  rintro e w6 ⟨rfl, c6, hx6, hp6⟩
  have HF : Hid (StepEnd w col p first B (.returned (.tuple #[])) w6) := Lib.hid ⟨rfl, _, _, _, H.out.hx.trans hx6, hp6, StB.open_ _ _ (by omega)⟩
  clear hx6 hp6
  go_wp2
  go_end0
  exact HF.out
end Go.Proofs.Ytfcialmdediojaa
