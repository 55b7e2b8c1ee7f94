/-
  slots.Save, Turn.
-/
import Derived.Test.YtfcialmdediojaaSlotsC
import Derived.Test.YtfcialmdediojaaRefC
import Derived.Deep.RegionHeld3
import Derived.Deep.DeepCutAuto
namespace Go.Proofs.Ytfcialmdediojaa
set_option linter.unusedVariables false
set_option linter.unusedSimpArgs false
open Go.RowKit
def saveS (d : Dev) (turn which : Nat) (first : Int) (x : List UInt8) : (Dev × Nat × Nat) × Int :=
  if 100 < x.length then ((d, turn, which), 2)
  else
    let q := if turn = 0 then 0 else 1 - which
    let r := d.write (first + (q : Nat)) (slotB (turn + 1) x)
    if r.2 ≠ 0 then ((r.1, turn, which), r.2)
    else
      let f := r.1.flush
      if f.2 ≠ 0 then ((f.1, turn, which), f.2) else ((f.1, turn + 1, q), 0)
set_option maxRecDepth 100000 in
theorem slots_turn {w : World} {s db : Nat} {first : Int} {turn which : Nat} (h : SlotsB w s db first turn which) :
    Calls Try.prog 5 #[.pointer (some ⟨s, 0, none⟩)] w fun e w' => e = .returned (.int .i64 (turn : Int)) ∧ w = w' := by
  obtain ⟨A, n, k, hb⟩ := h
  have c0 : w.cell? ⟨s, 0, none⟩ = some (.pointer (some ⟨db, 0, none⟩)) := hb.cell 0
  have c3 : w.cell? ⟨s, 3, none⟩ = some (.int .i64 (turn : Int)) := hb.cell 3
  clear hb
  go_enter Try.func5, Try.ntmps5
  go_wp2
  go_ret
  exact ⟨rfl, rfl⟩
set_option maxRecDepth 100000 in
theorem slots_turn_nil (w : World) : Calls Try.prog 5 #[.pointer none] w fun e w' => e = .returned (.int .i64 0) ∧ w = w' := by
  go_enter Try.func5, Try.ntmps5
  go_wp2
  go_ret
  exact ⟨rfl, rfl⟩
set_option maxRecDepth 100000 in
theorem slots_turn_zero (w : World) (s : Nat) (c0 : w.cell? ⟨s, 0, none⟩ = some (.pointer none)) : Calls Try.prog 5 #[.pointer (some ⟨s, 0, none⟩)] w fun e w' => e = .returned (.int .i64 0) ∧ w = w' := by
  go_enter Try.func5, Try.ntmps5
  go_wp2
  go_ret
  exact ⟨rfl, rfl⟩
set_option maxRecDepth 100000 in
theorem slots_save_nil (w : World) (v : Value) : Calls Try.prog 4 #[.pointer none, v] w fun e w' => e = .returned (.int .i64 1) ∧ w = w' := by
  go_enter Try.func4, Try.ntmps4
  go_wp2
  go_ret
  exact ⟨rfl, rfl⟩
set_option maxRecDepth 100000 in
theorem slots_save_zero (w : World) (v : Value) (s : Nat) (c0 : w.cell? ⟨s, 0, none⟩ = some (.pointer none)) : Calls Try.prog 4 #[.pointer (some ⟨s, 0, none⟩), v] w fun e w' => e = .returned (.int .i64 1) ∧ w = w' := by
  go_enter Try.func4, Try.ntmps4
  go_wp2
  go_ret
  exact ⟨rfl, rfl⟩
theorem bytes_clone_sl {w : World} {A : Option Addr} {l : List UInt8} (h : Sl w A (bytesV l)) (c : Nat) (hl : l.length ≤ 140737488355328) :
    Calls Try.prog 13 #[.slice A l.length c] w fun e w' => ∃ G cp, e = .returned (.slice G l.length cp) ∧ Sl w' G (bytesV l) ∧ (∀ ad, G = some ad → w.heap.size ≤ ad.block) ∧ Below w.heap.size w w' := by
  refine (bytes_clone h c hl).mono ?_
  rintro e w1 ⟨v, rfl, hown, hbel⟩
  obtain ⟨G, cp, rfl, hG, hcp, hGpos, hGbase⟩ := slice_of_own hown
  rw [bytesV_len]
  exact ⟨G, cp, rfl, hG, hGbase, hbel⟩
theorem Below.unalloc {w w' : World} {o : Obj} (h : Below (w.alloc o).drew.heap.size (w.alloc o).drew w') : Below w.heap.size w w' :=
  Below.trans' ((Below.refl w.heap.size w).alloc (Nat.le_refl _) o).drew h (by simp)
def NextRel (w : World) (turn which : Nat) (x : List UInt8) (a b : Value) (wx : World) : Prop := Below w.heap.size w wx ∧ b = .int .i64 (1 - (which : Int)) ∧ ∃ g G cp, a = .pointer (some ⟨g, 0, none⟩) ∧ Blk wx g 29 #[.int .i64 ((turn : Int) + 1), .slice G x.length cp] ∧ Sl wx G (bytesV x) ∧ w.heap.size ≤ g ∧ ∀ ad, G = some ad → w.heap.size ≤ ad.block
set_option maxRecDepth 100000 in
set_option maxHeartbeats 1600000 in
theorem slots_save {w : World} {col : Col} {c cs s db : Nat} {d : Dev} {first : Int} {turn which : Nat} (h : DevP w col c db d) (hs : SlotsB w s db first turn which) (hcs : col s = cs) (hc : c ≠ cs) (hc0 : c ≠ 0) (hcs0 : cs ≠ 0) (hp : Plain w col)
    (hf : -1000000 ≤ first ∧ first ≤ 1000000) (ht : turn ≤ 1152921504606846976) (hw : which ≤ 1) {A : Option Addr} {x : List UInt8} (xc : Nat) (hx : Sl w A (bytesV x)) (hA : SlCol col 0 A x.length) (hxl : x.length ≤ 140737488355328) :
    Calls Try.prog 4 #[.pointer (some ⟨s, 0, none⟩), .slice A x.length xc] w fun e w' =>
      e = .returned (.int .i64 (saveS d turn which first x).2) ∧ Ext (fun q => q = c ∨ q = cs) w col w' col ∧ DevP w' col c db (saveS d turn which first x).1.1 ∧ SlotsB w' s db first (saveS d turn which first x).1.2.1 (saveS d turn which first x).1.2.2 := by
  obtain ⟨TA, tn, tk, hb⟩ := hs
  have c0 : w.cell? ⟨s, 0, none⟩ = some (.pointer (some ⟨db, 0, none⟩)) := hb.cell 0
  have c1 : w.cell? ⟨s, 1, none⟩ = some (.int .i64 first) := hb.cell 1
  have c2 : w.cell? ⟨s, 2, none⟩ = some (.int .i64 (which : Int)) := hb.cell 2
  have c3 : w.cell? ⟨s, 3, none⟩ = some (.int .i64 (turn : Int)) := hb.cell 3
  have H := Lib.hid (And.intro h hb)
  have HX := Lib.hid (And.intro hx hA)
  by_cases hbig : 100 < x.length
  · have e1 : saveS d turn which first x = ((d, turn, which), 2) := by unfold saveS; rw [if_pos hbig]
    rw [e1]
    have hbg : decide ((100 : Int) < (x.length : Int)) = true := by simp; omega
    clear h hb hx hA e1
    go_enter Try.func4, Try.ntmps4
    go_wp2
    go_ret
    exact ⟨rfl, Ext.refl hp, H.out.1, _, _, _, H.out.2⟩
  · have hbg : ¬ 100 < x.length := hbig
    clear h hb hx hA
    have HS : Hid (∀ W, Below w.heap.size w W → W.cell? ⟨s, 2, none⟩ = some (.int .i64 (which : Int)) ∧ W.cell? ⟨s, 3, none⟩ = some (.int .i64 (turn : Int)) ∧ Sl W A (bytesV x)) := Lib.hid fun W hW => ⟨(hW.cell H.out.2.lt).trans c2, (hW.cell H.out.2.lt).trans c3, HX.out.1.below hW (Nat.le_refl _)⟩
    go_enter Try.func4, Try.ntmps4
    go_upto_region 5 with fail
    go_cut [5, 6] (fun a b wx => NextRel w turn which x a b wx)
    case first =>
      have hwt : IntKind.i64.wrap ((turn : Int) + 1) = (turn : Int) + 1 := by rw [IntKind.wrap_i64]; omega
      have hww : IntKind.i64.wrap (1 - (which : Int)) = 1 - (which : Int) := by rw [IntKind.wrap_i64]; omega
      go_region_held3 (fun w' => w'.cell? ⟨s, 2, none⟩ = some (.int .i64 (which : Int)) ∧ w'.cell? ⟨s, 3, none⟩ = some (.int .i64 (turn : Int)) ∧ Sl w' A (bytesV x))
        (first | exact HS.out _ ((Below.refl _ _).drew) | exact HS.out _ (((Below.refl _ _).alloc (Nat.le_refl _) _).drew) | exact HS.out _ hb1 | exact HS.out _ (hb1.alloc hb1.size _) | exact HS.out _ ((hb1.setCell (p := ⟨_, 0, none⟩) (by first | exact Nat.le_refl _ | exact hb1.size) _).setCell (p := ⟨_, 1, none⟩) (by first | exact Nat.le_refl _ | exact hb1.size) _))
        (first
          | ((go_at_call 13; refine (bytes_clone_sl (w := w.drew) (HS.out _ ((Below.refl _ _).drew)).2.2 _ hxl).mono ?_; rintro e w1 ⟨G, cp, rfl, hG, hGb, hbel⟩; have hb1 := Below.undrew hbel))
          | ((go_at_call 13; refine (bytes_clone_sl (HS.out _ (((Below.refl _ _).alloc (Nat.le_refl _) _).drew)).2.2 _ hxl).mono ?_; rintro e w1 ⟨G, cp, rfl, hG, hGb, hbel⟩; have hb1 := Below.unalloc hbel; have hbk := (Blk.new w 29 #[.int .i64 0, .slice none 0 0]).drew.below hbel (by simp); have q0 := hbk.cell 0; have q1 := hbk.cell 1; have z0 := hbk.frozen 0; have z1 := hbk.frozen 1)))
      · go_wp2_with fail
        go_meet
        exact ⟨hb1.alloc hb1.size _, rfl, w1.heap.size, G, cp, rfl, Blk.new w1 29 _, hG.alloc _, hb1.size, hGb⟩
      · go_wp2_with fail
        go_meet
        have hn : ∀ ad, G = some ad → 0 < (bytesV x).length → ad.block ≠ w.heap.size := fun ad ha _ => by have := hGb ad ha; simp at this; omega
        exact ⟨(hb1.setCell (p := ⟨w.heap.size, 0, none⟩) (Nat.le_refl _) _).setCell (p := ⟨w.heap.size, 1, none⟩) (Nat.le_refl _) _, rfl, w.heap.size, G, cp, rfl, by simpa using (hbk.set_ 0 (.int .i64 ((turn : Int) + 1))).set_ 1 (.slice G x.length cp), (hG.setCell _ hn).setCell _ hn, Nat.le_refl _, fun ad ha => by have := hGb ad ha; simp at this; omega⟩
    case rest =>
      obtain ⟨hbc, rfl, g, G, cp, rfl, hbg, hG, hgw, hGw⟩ := hcut
      have hec : Ext (· = c) w col wc col := .of_below hbc hp
      have hD : DevP wc col c db d := H.out.1.ext (C := fun _ => False) (.of_below hbc hp) (fun h => h)
      have hsb := H.out.2.below hbc H.out.2.lt
      have hcg : col g = 0 := hp g hgw
      have HC := Lib.hid (And.intro hec (And.intro hD (And.intro hsb (And.intro hbg (And.intro hG (And.intro hcg hGw))))))
      have c3' : wc.cell? ⟨s, 3, none⟩ = some (.int .i64 (turn : Int)) := hsb.cell 3
      have HS8 : Hid (∀ W, Ext (· = c) wc col W col → W.cell? ⟨s, 0, none⟩ = some (.pointer (some ⟨db, 0, none⟩)) ∧ W.cell? ⟨s, 1, none⟩ = some (.int .i64 first) ∧ W.cell? ⟨g, 0, none⟩ = some (.int .i64 ((turn : Int) + 1)) ∧ W.cell? ⟨g, 1, none⟩ = some (.slice G x.length cp)) := Lib.hid fun W hW => by
        have h1 : Blk W s _ _ := hsb.ext hW (by show ¬ col s = c; rw [hcs]; exact Ne.symm hc)
        have h2 : Blk W g _ _ := hbg.ext hW (by show ¬ col g = c; rw [hcg]; exact Ne.symm hc0)
        exact ⟨h1.cell 0, h1.cell 1, h2.cell 0, h2.cell 1⟩
      clear hec hD hsb hbg hG hcg hGw hbc c0 c1 c2 c3 HS
      have HWR : Hid (∀ W, Below wc.heap.size wc W → Calls Try.prog 14 #[.agg #[.int .i64 ((turn : Int) + 1), .slice G x.length cp]] W fun e w' => ∃ G' cp', e = .returned (.slice G' (slotB (turn + 1) x).length cp') ∧ Sl w' G' (bytesV (slotB (turn + 1) x)) ∧ (∀ ad, G' = some ad → W.heap.size ≤ ad.block) ∧ Below W.heap.size W w') := Lib.hid fun W hW => by
        refine (slot_written (HC.out.2.2.2.2.1.below hW (Nat.le_refl _)) cp (turn + 1) (by omega) (by omega)).mono ?_
        rintro e w1 ⟨v, rfl, hown, hbel⟩
        obtain ⟨G', cp', rfl, hG', -, -, hGb'⟩ := slice_of_own hown
        rw [bytesV_len]
        exact ⟨G', cp', rfl, hG', hGb', hbel⟩
      have HQ : Hid (saveS d turn which first x = (if (d.write (first + ((if turn = 0 then 0 else 1 - which : Nat) : Int)) (slotB (turn + 1) x)).2 ≠ 0 then (((d.write (first + ((if turn = 0 then 0 else 1 - which : Nat) : Int)) (slotB (turn + 1) x)).1, turn, which), (d.write (first + ((if turn = 0 then 0 else 1 - which : Nat) : Int)) (slotB (turn + 1) x)).2)
        else if ((d.write (first + ((if turn = 0 then 0 else 1 - which : Nat) : Int)) (slotB (turn + 1) x)).1.flush).2 ≠ 0 then ((((d.write (first + ((if turn = 0 then 0 else 1 - which : Nat) : Int)) (slotB (turn + 1) x)).1.flush).1, turn, which), ((d.write (first + ((if turn = 0 then 0 else 1 - which : Nat) : Int)) (slotB (turn + 1) x)).1.flush).2)
        else ((((d.write (first + ((if turn = 0 then 0 else 1 - which : Nat) : Int)) (slotB (turn + 1) x)).1.flush).1, turn + 1, (if turn = 0 then 0 else 1 - which)), 0))) := Lib.hid (by unfold saveS; rw [if_neg hbig])
      have hqv : (((if turn = 0 then 0 else 1 - which : Nat) : Nat) : Int) = if turn = 0 then 0 else 1 - (which : Int) := by split <;> omega
      generalize hqq : (if turn = 0 then 0 else 1 - which : Nat) = q at *
      have HQQ := Lib.hid hqq
      have hq1 : q ≤ 1 := by rw [← hqq]; split <;> omega
      have hiw : IntKind.i64.wrap (first + (q : Int)) = first + (q : Int) := by rw [IntKind.wrap_i64]; omega
      clear hqq
      have hpc := HC.out.1.plain
      go_upto_region 8 with fail
      · obtain rfl : q = 0 := by rw [← HQQ.out, if_pos (by simp_all)]
        have e0 : first + ((0 : Nat) : Int) = first := by simp
        rw [e0] at HQ hiw
        clear hqv HQQ hq1 e0
        have HA1 : Hid (∀ w1, Below wc.drew.heap.size wc.drew w1 → DevP w1 col c db d) := Lib.hid fun w1 h1 => HC.out.2.1.ext (C := fun _ => False) (.of_below (Below.undrew h1) hpc) (fun h => h)
        go_region_held3 (fun w' => w'.cell? ⟨s, 0, none⟩ = some (.pointer (some ⟨db, 0, none⟩)) ∧ w'.cell? ⟨s, 1, none⟩ = some (.int .i64 first) ∧ w'.cell? ⟨g, 0, none⟩ = some (.int .i64 ((turn : Int) + 1)) ∧ w'.cell? ⟨g, 1, none⟩ = some (.slice G x.length cp))
          (first | exact HS8.out _ (Ext.refl hpc).drew | exact HS8.out _ (.of_below (Below.undrew hb1) hpc) | exact HS8.out _ hexw)
          (first
            | ((go_at_call 14; refine (HWR.out _ ((Below.refl _ _).drew)).mono ?_; rintro e w1 ⟨G', cp', rfl, hG', hGb', hb1⟩))
            | ((go_at_call 11; refine (sector_write (HA1.out _ hb1) (hpc.size_le hb1.size) hc0 _ cp' hG' (fun _ ad ha => by rw [hpc _ (hGb' ad ha)]; exact Ne.symm hc0)).mono ?_; rintro e w2 ⟨rfl, hex2, hdv2⟩; have hexw : Ext (· = c) wc col w2 col := (Ext.of_below (Below.undrew hb1) hpc).trans hex2)))
        clear HA1 hG' hGb' hb1 hex2
        generalize d.write (first) (slotB (turn + 1) x) = r at *
        have HX2 := Lib.hid (And.intro hexw hdv2)
        obtain ⟨c0, c1, cg0, cg1⟩ := HS8.out _ hexw
        clear hexw hdv2
        by_cases hr : r.2 = 0
        · rw [hr] at HQ ⊢
          rw [if_neg (by simp)] at HQ
          go_wp2_with fail
          refine (sector_flush HX2.out.2 HX2.out.1.plain hc0).mono ?_
          rintro e w3 ⟨rfl, hex3, hdv3⟩
          have HX3 := Lib.hid (And.intro (HX2.out.1.trans hex3) hdv3)
          obtain ⟨d0, d1, dg0, dg1⟩ := HS8.out _ (HX2.out.1.trans hex3)
          clear hex3 hdv3 c0 c1 cg0 cg1
          generalize r.1.flush = fl at *
          have hsb3 : Blk w3 s _ _ := HC.out.2.2.1.ext HX3.out.1 (by show ¬ col s = c; rw [hcs]; exact Ne.symm hc)
          have HE : Hid (Ext (fun q => q = c ∨ q = cs) w col w3 col) := Lib.hid ((HC.out.1.trans HX3.out.1).mono (fun _ h => .inl h))
          by_cases hf2 : fl.2 = 0
          · rw [hf2] at HQ ⊢
            rw [if_neg (by simp)] at HQ
            have s2 : w3.cell? ⟨s, 2, none⟩ = some (.int .i64 (which : Int)) := hsb3.cell 2
            have s3 : w3.cell? ⟨s, 3, none⟩ = some (.int .i64 (turn : Int)) := hsb3.cell 3
            have s4 : w3.cell? ⟨s, 4, none⟩ = some (.slice TA tn tk) := hsb3.cell 4
            have z2 := hsb3.frozen 2
            have z3 := hsb3.frozen 3
            have z4 := hsb3.frozen 4
            have HB3 := Lib.hid hsb3
            clear hsb3
            go_wp2
            go_ret
            rw [HQ.out]
            have hb5 := ((HB3.out.set_ 3 (.int .i64 ((turn : Int) + 1))).set_ 4 (.slice G x.length cp)).set_ 2 (.int .i64 (0))
            have hoth : ∀ k, k ≠ s → (((w3.setCell ⟨s, 3, none⟩ (.int .i64 ((turn : Int) + 1))).setCell ⟨s, 4, none⟩ (.slice G x.length cp)).setCell ⟨s, 2, none⟩ (.int .i64 (0))).heap[k]? = w3.heap[k]? := fun k hk => (Below.heap_setCell _ _ _ _ hk).trans ((Below.heap_setCell _ _ _ _ hk).trans (Below.heap_setCell _ _ _ _ hk))
            have he3 : Ext (· = cs) w3 col (((w3.setCell ⟨s, 3, none⟩ (.int .i64 ((turn : Int) + 1))).setCell ⟨s, 4, none⟩ (.slice G x.length cp)).setCell ⟨s, 2, none⟩ (.int .i64 (0))) col := (((Ext.refl HX3.out.1.plain).setCell _ _ (.inl hcs)).setCell _ _ (.inl hcs)).setCell _ _ (.inl hcs)
            exact ⟨rfl, HE.out.trans (he3.mono (fun _ h => .inr h)), HX3.out.2.ext he3 hc, _, _, _, by simpa using hb5⟩
          · rw [if_pos hf2] at HQ
            have hb : (fl.2 != 0) = true := by rw [bne_iff_ne]; exact hf2
            have HB3 := Lib.hid hsb3
            clear hsb3 hf2
            obtain ⟨fd, fe⟩ := fl
            simp only at hb
            go_wp2
            go_ret
            rw [HQ.out]
            exact ⟨rfl, HE.out, HX3.out.2, _, _, _, HB3.out⟩
        · rw [if_pos hr] at HQ
          have hb : (r.2 != 0) = true := by rw [bne_iff_ne]; exact hr
          have hsb3 : Blk w2 s _ _ := HC.out.2.2.1.ext HX2.out.1 (by show ¬ col s = c; rw [hcs]; exact Ne.symm hc)
          have HE : Hid (Ext (fun q => q = c ∨ q = cs) w col w2 col) := Lib.hid ((HC.out.1.trans HX2.out.1).mono (fun _ h => .inl h))
          have HB3 := Lib.hid hsb3
          clear hsb3 hr
          obtain ⟨rd, re⟩ := r
          simp only at hb
          go_wp2
          go_ret
          rw [HQ.out]
          exact ⟨rfl, HE.out, HX2.out.2, _, _, _, HB3.out⟩
      · have hne : turn ≠ 0 := by intro e; subst e; simp_all
        rw [if_neg hne] at hqv
        have e0 : first + (q : Int) = first + (1 - (which : Int)) := by rw [hqv]
        rw [e0] at HQ hiw
        have HQV := Lib.hid hqv
        clear hqv
        have HA1 : Hid (∀ w1, Below wc.drew.heap.size wc.drew w1 → DevP w1 col c db d) := Lib.hid fun w1 h1 => HC.out.2.1.ext (C := fun _ => False) (.of_below (Below.undrew h1) hpc) (fun h => h)
        go_region_held3 (fun w' => w'.cell? ⟨s, 0, none⟩ = some (.pointer (some ⟨db, 0, none⟩)) ∧ w'.cell? ⟨s, 1, none⟩ = some (.int .i64 first) ∧ w'.cell? ⟨g, 0, none⟩ = some (.int .i64 ((turn : Int) + 1)) ∧ w'.cell? ⟨g, 1, none⟩ = some (.slice G x.length cp))
          (first | exact HS8.out _ (Ext.refl hpc).drew | exact HS8.out _ (.of_below (Below.undrew hb1) hpc) | exact HS8.out _ hexw)
          (first
            | ((go_at_call 14; refine (HWR.out _ ((Below.refl _ _).drew)).mono ?_; rintro e w1 ⟨G', cp', rfl, hG', hGb', hb1⟩))
            | ((go_at_call 11; refine (sector_write (HA1.out _ hb1) (hpc.size_le hb1.size) hc0 _ cp' hG' (fun _ ad ha => by rw [hpc _ (hGb' ad ha)]; exact Ne.symm hc0)).mono ?_; rintro e w2 ⟨rfl, hex2, hdv2⟩; have hexw : Ext (· = c) wc col w2 col := (Ext.of_below (Below.undrew hb1) hpc).trans hex2)))
        clear HA1 hG' hGb' hb1 hex2
        generalize d.write (first + (1 - (which : Int))) (slotB (turn + 1) x) = r at *
        have HX2 := Lib.hid (And.intro hexw hdv2)
        obtain ⟨c0, c1, cg0, cg1⟩ := HS8.out _ hexw
        clear hexw hdv2
        by_cases hr : r.2 = 0
        · rw [hr] at HQ ⊢
          rw [if_neg (by simp)] at HQ
          go_wp2_with fail
          refine (sector_flush HX2.out.2 HX2.out.1.plain hc0).mono ?_
          rintro e w3 ⟨rfl, hex3, hdv3⟩
          have HX3 := Lib.hid (And.intro (HX2.out.1.trans hex3) hdv3)
          obtain ⟨d0, d1, dg0, dg1⟩ := HS8.out _ (HX2.out.1.trans hex3)
          clear hex3 hdv3 c0 c1 cg0 cg1
          generalize r.1.flush = fl at *
          have hsb3 : Blk w3 s _ _ := HC.out.2.2.1.ext HX3.out.1 (by show ¬ col s = c; rw [hcs]; exact Ne.symm hc)
          have HE : Hid (Ext (fun q => q = c ∨ q = cs) w col w3 col) := Lib.hid ((HC.out.1.trans HX3.out.1).mono (fun _ h => .inl h))
          by_cases hf2 : fl.2 = 0
          · rw [hf2] at HQ ⊢
            rw [if_neg (by simp)] at HQ
            have s2 : w3.cell? ⟨s, 2, none⟩ = some (.int .i64 (which : Int)) := hsb3.cell 2
            have s3 : w3.cell? ⟨s, 3, none⟩ = some (.int .i64 (turn : Int)) := hsb3.cell 3
            have s4 : w3.cell? ⟨s, 4, none⟩ = some (.slice TA tn tk) := hsb3.cell 4
            have z2 := hsb3.frozen 2
            have z3 := hsb3.frozen 3
            have z4 := hsb3.frozen 4
            have HB3 := Lib.hid hsb3
            clear hsb3
            go_wp2
            go_ret
            rw [HQ.out]
            have hb5 := ((HB3.out.set_ 3 (.int .i64 ((turn : Int) + 1))).set_ 4 (.slice G x.length cp)).set_ 2 (.int .i64 (1 - (which : Int)))
            have hoth : ∀ k, k ≠ s → (((w3.setCell ⟨s, 3, none⟩ (.int .i64 ((turn : Int) + 1))).setCell ⟨s, 4, none⟩ (.slice G x.length cp)).setCell ⟨s, 2, none⟩ (.int .i64 (1 - (which : Int)))).heap[k]? = w3.heap[k]? := fun k hk => (Below.heap_setCell _ _ _ _ hk).trans ((Below.heap_setCell _ _ _ _ hk).trans (Below.heap_setCell _ _ _ _ hk))
            have he3 : Ext (· = cs) w3 col (((w3.setCell ⟨s, 3, none⟩ (.int .i64 ((turn : Int) + 1))).setCell ⟨s, 4, none⟩ (.slice G x.length cp)).setCell ⟨s, 2, none⟩ (.int .i64 (1 - (which : Int)))) col := (((Ext.refl HX3.out.1.plain).setCell _ _ (.inl hcs)).setCell _ _ (.inl hcs)).setCell _ _ (.inl hcs)
            exact ⟨rfl, HE.out.trans (he3.mono (fun _ h => .inr h)), HX3.out.2.ext he3 hc, _, _, _, by simpa [HQV.out] using hb5⟩
          · rw [if_pos hf2] at HQ
            have hb : (fl.2 != 0) = true := by rw [bne_iff_ne]; exact hf2
            have HB3 := Lib.hid hsb3
            clear hsb3 hf2
            obtain ⟨fd, fe⟩ := fl
            simp only at hb
            go_wp2
            go_ret
            rw [HQ.out]
            exact ⟨rfl, HE.out, HX3.out.2, _, _, _, HB3.out⟩
        · rw [if_pos hr] at HQ
          have hb : (r.2 != 0) = true := by rw [bne_iff_ne]; exact hr
          have hsb3 : Blk w2 s _ _ := HC.out.2.2.1.ext HX2.out.1 (by show ¬ col s = c; rw [hcs]; exact Ne.symm hc)
          have HE : Hid (Ext (fun q => q = c ∨ q = cs) w col w2 col) := Lib.hid ((HC.out.1.trans HX2.out.1).mono (fun _ h => .inl h))
          have HB3 := Lib.hid hsb3
          clear hsb3 hr
          obtain ⟨rd, re⟩ := r
          simp only at hb
          go_wp2
          go_ret
          rw [HQ.out]
          exact ⟨rfl, HE.out, HX2.out.2, _, _, _, HB3.out⟩
end Go.Proofs.Ytfcialmdediojaa
