/-
  The law's SlotsDo.
-/
import Derived.Test.YtfcialmdediojaaLawB
namespace Go.Proofs.Ytfcialmdediojaa
set_option linter.unusedVariables false
set_option linter.unusedSimpArgs false
open Go.RowKit
structure DeedC where
  K : Int
  N : Int
  DA : Option Addr
  data : List UInt8
  dc : Nat
  KA : Option Addr
  keep : List Int
  kc : Nat
def DeedC.agg (x : DeedC) : Value := .agg #[.int .i64 x.K, .int .i64 x.N, .slice x.DA x.data.length x.dc, .slice x.KA x.keep.length x.kc]
def DeedC.At (x : DeedC) (w : World) (b o : Nat) : Prop :=
  w.cell? ⟨b, o, none⟩ = some (.int .i64 x.K) ∧ w.cell? ⟨b, o + 1, none⟩ = some (.int .i64 x.N) ∧ w.cell? ⟨b, o + 2, none⟩ = some (.slice x.DA x.data.length x.dc) ∧ w.cell? ⟨b, o + 3, none⟩ = some (.slice x.KA x.keep.length x.kc)
def DeedC.V (x : DeedC) (w : World) (col : Col) : Prop := DeedV w col x.agg x.K x.N x.DA x.data x.KA x.keep x.dc x.kc
theorem DeedC.V.ext {x : DeedC} {w w' : World} {col col' : Col} {C : Nat → Prop} (h : x.V w col) (he : Ext C w col w' col') (hc : ¬ C 0) : x.V w' col' :=
  ⟨h.form, h.hdata.ext he (by rw [bytesV_len]; exact h.dcol) hc, SS.slc h.hdata (by rw [bytesV_len]) h.dcol he, h.hkeep.ext he (by rw [List.length_map]; exact h.kcol) hc, SS.slc h.hkeep (by simp) h.kcol he, h.hK, h.hN, h.ks, h.few⟩
/-- a list of deeds in memory -/
structure DeedL (w : World) (b : Nat) (l : List DeedC) : Prop where
  lt : b < w.heap.size
  at_ : ∀ i (h : i < l.length), l[i].At w b (i * 4)
  v : ∀ i (h : i < l.length), l[i].V w (fun _ => 0)
theorem DeedC.At.ext {x : DeedC} {w w' : World} {col col' : Col} {C : Nat → Prop} {b o : Nat} (h : x.At w b o) (he : Ext C w col w' col') (hb : b < w.heap.size) (hc : ¬ C (col b)) : x.At w' b o :=
  ⟨(he.cell (p := ⟨b, o, none⟩) hb hc).trans h.1, (he.cell (p := ⟨b, o + 1, none⟩) hb hc).trans h.2.1, (he.cell (p := ⟨b, o + 2, none⟩) hb hc).trans h.2.2.1, (he.cell (p := ⟨b, o + 3, none⟩) hb hc).trans h.2.2.2⟩
def DoRel (w : World) (p : Nat) (first : Int) (n : Nat) (y : Value) (wr : World) : Prop := ∃ i : Nat, i ≤ n ∧ y = .int .i64 (i : Int) ∧ ∃ col d st, Ext MyC w (fun _ => 0) wr col ∧ PairP wr col p first d st ∧ StB (9007199254740991 + i) st
set_option maxRecDepth 100000 in
set_option maxHeartbeats 1600000 in
theorem slots_do {w : World} {first : Int} {b : Nat} {l : List DeedC} (hl : DeedL w b l) (hn : l.length ≤ 40) (cap : Nat) (hf : -1000000 ≤ first ∧ first ≤ 1000000) :
    Calls Try.prog 9 #[.int .i64 first, .slice (some ⟨b, 0, none⟩) l.length cap] w fun e w' => e = .returned (.bool true) ∧ Below w.heap.size w w' := by
  have hp : Plain w (fun _ => 0) := fun _ _ => rfl
  have HL := Lib.hid hl
  clear hl
  go_enter Try.func9, Try.ntmps9
  go_wp2_with fail
  refine (sector_new hp 4 (by omega) (by omega) 1).mono ?_
  rintro e w1 ⟨db, rfl, hdb, c1, hx1, hd1⟩
  have H1 := Lib.hid (And.intro hx1 hd1)
  clear hx1 hd1
  go_wp2_with fail
  refine (refdev_new H1.out.1.plain 4 (by omega) (by omega) 3).mono ?_
  rintro e w2 ⟨du, rfl, hdu, c2, hx2, hd2⟩
  have H2 := Lib.hid (And.intro (H1.out.1.trans hx2) (And.intro (H1.out.2.ext hx2 (fun h => h)) hd2))
  clear hx2 hd2 H1
  go_wp2_with fail
  have hbk := Blk.new w2 62 #[.pointer (some ⟨db, 0, none⟩), .pointer none, .pointer (some ⟨du, 0, none⟩), .pointer none, .bool true]
  have hx3 : Ext (fun _ => False) w2 c2 (w2.alloc (.cells #[.pointer (some ⟨db, 0, none⟩), .pointer none, .pointer (some ⟨du, 0, none⟩), .pointer none, .bool true] 62)) (Col.set c2 w2.heap.size 5) := ((Ext.refl H2.out.1.plain).alloc _).paint 5 (Nat.le_refl _) (by simp)
  have H3 := Lib.hid (And.intro (H2.out.1.trans hx3) (show PairP _ _ w2.heap.size first (Dev.new 4) none from ⟨db, du, _, _, hbk, H2.out.2.1.ext hx3 (fun h => h), H2.out.2.2.ext hx3 (fun h => h) (fun h => h), ⟨rfl, rfl⟩, Col.set_same ..⟩))
  clear hbk hx3
  generalize w2.alloc (.cells #[.pointer (some ⟨db, 0, none⟩), .pointer none, .pointer (some ⟨du, 0, none⟩), .pointer none, .bool true] 62) = w3 at *
  generalize Col.set c2 w2.heap.size 5 = c3 at *
  generalize w2.heap.size = p at *
  refine (pair_opens H3.out.2 H3.out.1.plain hf).mono ?_
  rintro e w4 ⟨rfl, c4, hx4, hp4⟩
  have H4 : Hid (DoRel w p first l.length (.int .i64 0) w4) := Lib.hid ⟨0, Nat.zero_le _, rfl, c4, _, _, (H3.out.1.mono (fun _ h => h.elim)).trans hx4, hp4, StB.open_ _ _ (by omega)⟩
  clear hx4 hp4 H3 H2
  go_wp2_with fail
  go_loopw [10] (fun y wr => DoRel w p first l.length y wr) (fun y _ => l.length - (intOf y).toNat)
  case atStart => exact H4.out
  case round =>
    obtain ⟨i, hi, rfl, col, d, st, hx, hpp, hst⟩ := hrel
    have HP := Lib.hid (And.intro hx (And.intro hpp hst))
    obtain ⟨db', du', vs, vm, hb, -⟩ := hpp
    have p4 : wr.cell? ⟨p, 4, none⟩ = some (.bool true) := hb.cell 4
    clear hx hst hb H4
    have hln : (l.length : Int) ≤ 40 := by omega
    by_cases hlt : i < l.length
    · have h40 : (i : Int) < 40 := by omega
      have hat := (HL.out.at_ i hlt).ext HP.out.1 HL.out.lt (by show ¬ 1 ≤ 0; omega)
      have hv := (HL.out.v i hlt).ext HP.out.1 (by show ¬ 1 ≤ 0; omega)
      generalize l[i] = x at *
      obtain ⟨K, N, DA, data, dc, KA, keep, kc⟩ := x
      obtain ⟨q0, q1, q2, q3⟩ := hat
      have HV := Lib.hid hv
      clear hv
      go_wp2_with fail
      refine (pair_step HP.out.2.1 HP.out.1.plain hf HP.out.2.2 (by omega) HV.out).mono ?_
      rintro e w5 ⟨rfl, c5, d5, st5, hx5, hp5, hst5⟩
      have H5 := Lib.hid (And.intro (HP.out.1.trans hx5) (And.intro hp5 hst5))
      obtain ⟨db', du', vs, vm, hb, -⟩ := hp5
      have p4' : w5.cell? ⟨p, 4, none⟩ = some (.bool true) := hb.cell 4
      clear hx5 hst5 hb q0 q1 q2 q3 p4
      go_wp2_with fail
      refine (pair_tells H5.out.2.1 H5.out.1.plain).mono ?_
      rintro e w6 ⟨rfl, hb6⟩
      have hx6 : Ext (fun _ => False) w5 c5 w6 c5 := .of_below hb6 H5.out.1.plain
      obtain ⟨db'', du'', vs'', vm'', hb', hd', hu', hs', hc'⟩ := H5.out.2.1
      have hbb := hb'.ext hx6 (fun h => h)
      have z4 := hbb.frozen 4
      have p46 : w6.cell? ⟨p, 4, none⟩ = some (.bool true) := hbb.cell 4
      have hx7 : Ext (· = 5) w6 c5 (w6.setCell ⟨p, 4, none⟩ (.bool true)) c5 := (Ext.refl hx6.plain).setCell _ _ (.inl hc')
      have hb7 : Blk (w6.setCell ⟨p, 4, none⟩ (.bool true)) p _ _ := hbb.set_ 4 (.bool true)
      have H7 : Hid (DoRel w p first l.length (.int .i64 ((i : Int) + 1)) (w6.setCell ⟨p, 4, none⟩ (.bool true))) := Lib.hid
        ⟨i + 1, by omega, by go_num, c5, d5, st5, ((H5.out.1.trans (hx6.mono fun _ h => h.elim)).trans (hx7.mono fun q hq => by subst hq; show 1 ≤ 5; omega)), ⟨db'', du'', vs'', vm'', by simpa using hb7, (hd'.ext hx6 (fun h => h)).ext hx7 (by omega), (hu'.ext hx6 (fun h => h) (fun h => h)).ext hx7 (by omega) (by omega), (hs'.ext hx6 (fun h => h) (fun h => h)).ext hx7 (by omega) (by omega), hc'⟩, H5.out.2.2⟩
      have hbl : p < w5.heap.size := hb'.lt
      clear hb6 hx6 hb' hd' hu' hs' hbb hx7 hb7 p4'
      go_wp2
      go_roundw
      case rel => exact H7.out
      case measure => simp [intOf]; omega
    · obtain rfl : i = l.length := by omega
      go_wp2_with fail
      refine (awake wr).mono ?_
      rintro e w8 ⟨rfl, hb8⟩
      have HF := Lib.hid (Below.trans' (Below.of_ext HP.out.1 (by show ¬ 1 ≤ 0; omega)) hb8 HP.out.1.size)
      clear hb8
      go_wp2
      go_ret
      exact ⟨rfl, HF.out⟩
end Go.Proofs.Ytfcialmdediojaa
