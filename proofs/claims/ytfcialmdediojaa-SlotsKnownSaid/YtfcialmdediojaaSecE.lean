/-
  The program's device: a work (of a Write, of a Flush).
-/
import Derived.Test.YtfcialmdediojaaSecD
import Derived.BigRegion
namespace Go.Proofs.Ytfcialmdediojaa
set_option linter.unusedVariables false
set_option linter.unusedSimpArgs false
open Go.RowKit
theorem nop_write (w : World) : Calls Try.prog 26 #[] w fun e w' => e = .returned (.tuple #[]) ∧ w = w' := by
  go_enter Try.func26, Try.ntmps26
  go_wp2
  go_end0
  exact ⟨rfl, rfl⟩
theorem nop_flush (w : World) : Calls Try.prog 30 #[] w fun e w' => e = .returned (.tuple #[]) ∧ w = w' := by
  go_enter Try.func30, Try.ntmps30
  go_wp2
  go_end0
  exact ⟨rfl, rfl⟩
set_option maxRecDepth 100000 in
set_option maxHeartbeats 1600000 in
theorem work_write (w : World) (col : Col) (c B0 B1 B2 b bs bm kc xb xo xc i : Nat) (kA : Option Addr) (D : DataW Unit) (d : Dev) (new : List UInt8) (h : DevB w b bs bm kA kc D d) (k : DevC col c b bs bm kA d.keep.length) (hp : Plain w col)
    (k0 : w.cell? ⟨B0, 0, none⟩ = some (.pointer (some ⟨b, 0, none⟩))) (k1 : w.cell? ⟨B1, 0, none⟩ = some (.int .i64 (i : Int))) (k2 : w.cell? ⟨B2, 0, none⟩ = some (.slice (some ⟨xb, xo, none⟩) 128 xc))
    (hi : i < d.l.length) (hx : w.rangeAt xb xo (bytesV new)) (hn : new.length = 128) (n0 : col B0 ≠ c) (n1 : col B1 ≠ c) (n2 : col B2 ≠ c) (nx : col xb ≠ c) :
    Calls Try.prog 24 #[.pointer (some ⟨b, 0, none⟩), .func (.func 25) #[] #[.pointer (some ⟨B0, 0, none⟩), .pointer (some ⟨B1, 0, none⟩), .pointer (some ⟨B2, 0, none⟩)], .func (.func 26) #[] #[]] w fun e w' =>
      e = .returned (.int .i64 (d.worked (fun l => l.modify i (Sec.put new)) id).2) ∧ Ext (· = c) w col w' col ∧ ∃ D', DevB w' b bs bm kA kc D' (d.worked (fun l => l.modify i (Sec.put new)) id).1 := by
  by_cases ht : d.til = 0
  · have e1 : d.worked (fun l => l.modify i (Sec.put new)) id = (d, 101) := by simp [Dev.worked, ht]
    rw [e1]
    have c4 := h.c4
    have hb4 : (d.til == 0) = true := by simp [ht]
    have HF : Hid (Ext (· = c) w col w col ∧ ∃ D', DevB w b bs bm kA kc D' d) := ⟨Ext.refl hp, D, h⟩
    clear e1 ht h k k0 k1 k2 hx
    go_enter Try.func24, Try.ntmps24
    go_wp2_with fail
    go_ret
    exact ⟨rfl, HF.out⟩
  · have hm := mid_write w col c B0 B1 B2 b bs bm kc xb xo xc i kA D d new h k hp k0 k1 k2 hi hx hn n0 n1 n2 nx
    have HM := Lib.hid hm
    have c4 := h.c4
    have hb4 : (d.til == 0) = false := by simp [ht]
    have hlt := h.ok.left
    have htl := h.ok.til
    have H := Lib.hid h
    clear h hm k0 k1 k2 hx
    by_cases hl : d.left = 0
    · have e1 : d.worked (fun l => l.modify i (Sec.put new)) id = (({ d with l := d.l.modify i (Sec.put new) } : Dev).gone d.keep, 100) := by simp [Dev.worked, ht, hl]
      rw [e1]
      have hb2 : (d.left == 0) = true := by simp [hl]
      clear e1 ht hl hlt htl
      go_enter Try.func24, Try.ntmps24
      go_wp2_with fail
      refine HM.out.mono ?_
      rintro e w1 ⟨rfl, he, D1, h1⟩
      have q2 : w1.cell? ⟨b, 2, none⟩ = some (.int .i64 d.left) := h1.c2
      have q3 : w1.cell? ⟨b, 3, none⟩ = some (.slice kA d.keep.length kc) := h1.c3
      have H1 := Lib.hid h1
      have HE := Lib.hid he
      clear h1 he
      go_wp2_with fail
      refine (gone_is w1 col c b bs bm kc kA D1 _ H1.out k HE.out.plain d.keep kA kc H1.out.keep H1.out.cap H1.out.kne).mono ?_
      rintro e w2 ⟨rfl, he2, h2⟩
      have HF : Hid (Ext (· = c) w col w2 col ∧ ∃ D', DevB w2 b bs bm kA kc D' (({ d with l := d.l.modify i (Sec.put new) } : Dev).gone d.keep)) := ⟨HE.out.trans he2, _, h2⟩
      clear he2 h2
      go_wp2_with fail
      go_ret
      exact ⟨rfl, HF.out⟩
    · have e1 : d.worked (fun l => l.modify i (Sec.put new)) id = ({ d with l := d.l.modify i (Sec.put new), done := wrapI (d.done + 1), left := max (d.left - 1) (-1), til := max (d.til - 1) (-1) }, 0) := by simp [Dev.worked, ht, hl]
      rw [e1]
      have hb2 : (d.left == 0) = false := by simp [hl]
      clear e1 ht hl
      go_enter Try.func24, Try.ntmps24
      go_wp2_with fail
      refine HM.out.mono ?_
      rintro e w1 ⟨rfl, he, D1, h1⟩
      have q2 : w1.cell? ⟨b, 2, none⟩ = some (.int .i64 d.left) := h1.c2
      have q4 : w1.cell? ⟨b, 4, none⟩ = some (.int .i64 d.til) := h1.c4
      have q5 : w1.cell? ⟨b, 5, none⟩ = some (.int .i64 d.done) := h1.c5
      have z2 := h1.hd.frozen 2
      have z4 := h1.hd.frozen 4
      have z5 := h1.hd.frozen 5
      have H1 := Lib.hid h1
      have HE := Lib.hid he
      clear h1 he c4
      go_wp2_with fail
      refine (nop_write _).mono ?_
      rintro e w2 ⟨rfl, rfl⟩
      go_wp2_with fail
      have hb5 := H1.out.hd.set_ 5 (.int .i64 (wrap64 (d.done + 1)))
      have he5 : Ext (· = c) w1 col (w1.setCell ⟨b, 5, none⟩ (.int .i64 (wrap64 (d.done + 1)))) col := (Ext.refl HE.out.plain).setCell _ _ (.inl k.b)
      have hoth : ∀ q, q ≠ b → (w1.setCell ⟨b, 5, none⟩ (.int .i64 (wrap64 (d.done + 1)))).heap[q]? = w1.heap[q]? := fun q hq => Below.heap_setCell _ _ _ _ hq
      have HX := Lib.hid (And.intro hb5 (And.intro he5 hoth))
      clear hb5 he5 hoth q2 q4 q5 z2 z4 z5
      generalize w1.setCell ⟨b, 5, none⟩ (.int .i64 (wrap64 (d.done + 1))) = w2 at *
      have p2 : w2.cell? ⟨b, 2, none⟩ = some (.int .i64 d.left) := HX.out.1.cell 2
      have p4 : w2.cell? ⟨b, 4, none⟩ = some (.int .i64 d.til) := HX.out.1.cell 4
      have z2 := HX.out.1.frozen 2
      have z4 := HX.out.1.frozen 4
      go_region
      go_wp2
      go_ret
      have hbx := (HX.out.1.set_ 2 (.int .i64 (max (d.left - 1) (-1)))).set_ 4 (.int .i64 (max (d.til - 1) (-1)))
      have hex : Ext (· = c) w2 col ((w2.setCell ⟨b, 2, none⟩ (.int .i64 (max (d.left - 1) (-1)))).setCell ⟨b, 4, none⟩ (.int .i64 (max (d.til - 1) (-1)))).drew col := (((Ext.refl HX.out.2.1.plain).setCell _ _ (.inl k.b)).setCell _ _ (.inl k.b)).drew
      refine ⟨rfl, (HE.out.trans HX.out.2.1).trans hex, D1, ?_⟩
      have hok := H1.out.ok
      refine H1.out.head ?_ (fun q hq => ((Below.heap_setCell _ _ _ _ hq).trans (Below.heap_setCell _ _ _ _ hq)).trans (HX.out.2.2 q hq)) (Nat.le_trans HX.out.2.1.size hex.size) rfl rfl
        ⟨hok.now, hok.sure, hok.same, hok.few, hok.pos, ⟨by show _ ≤ max _ _; omega, by show max _ _ ≤ _; omega⟩, ⟨by show _ ≤ max _ _; omega, by show max _ _ ≤ _; omega⟩, wrapI_in _, hok.keep⟩ (H1.out.hd.ne_ H1.out.sec (by decide)) (map_ne_blk H1.out.map H1.out.hd)
      rw [show wrap64 (d.done + 1) = wrapI (d.done + 1) from by unfold wrap64 wrapI; rfl] at hbx
      refine Blk.drew ?_
      simpa using hbx

theorem MapIs.flushed (l : List Sec) : MapIs (.map []) (l.map Sec.flush) := MapIs.none fun s hs => by
  obtain ⟨t, _, rfl⟩ := List.mem_map.1 hs; rfl
theorem Dev.OK.flushed {d : Dev} (h : d.OK) : ({ d with l := d.l.map Sec.flush } : Dev).OK := by
  have hall : ∀ s ∈ d.l.map Sec.flush, s.now.length = 128 ∧ s.sure.length = 128 ∧ (s.wr = false → s.sure = s.now) := fun s hs => by
    obtain ⟨t, ht, rfl⟩ := List.mem_map.1 hs
    exact ⟨h.now t ht, h.now t ht, fun _ => rfl⟩
  exact ⟨fun s hs => (hall s hs).1, fun s hs => (hall s hs).2.1, fun s hs => (hall s hs).2.2, by show (d.l.map Sec.flush).length ≤ _; rw [List.length_map]; exact h.few, by show _ ≤ (d.l.map Sec.flush).length; rw [List.length_map]; exact h.pos, h.left, h.til, h.done, h.keep⟩
set_option maxRecDepth 100000 in
set_option maxHeartbeats 800000 in
theorem mid_flush (w : World) (col : Col) (c B0 b bs bm kc : Nat) (kA : Option Addr) (D : DataW Unit) (d : Dev) (h : DevB w b bs bm kA kc D d) (k : DevC col c b bs bm kA d.keep.length) (hp : Plain w col)
    (k0 : w.cell? ⟨B0, 0, none⟩ = some (.pointer (some ⟨b, 0, none⟩))) (n0 : col B0 ≠ c) :
    Calls Try.prog 31 #[.pointer (some ⟨B0, 0, none⟩)] w fun e w' => e = .returned (.tuple #[]) ∧
      Ext (· = c) w col w' col ∧ ∃ D', DevB w' b bs bm kA kc D' { d with l := d.l.map Sec.flush } := by
  have c1 := h.c1
  have H := Lib.hid h
  clear h
  go_enter Try.func31, Try.ntmps31
  go_wp2_with ((with_reducible refine wpList_clear_own _ rfl (.tmp 4) 38 rfl _ _ Try.underlying38 blkR bm _ D ?hm H.out.map ?hk); (case hm => rfl); intro w2 hown2 hgrow2; (have HO := Lib.hid hown2); (have HW2 := Lib.hid hgrow2); clear hown2 hgrow2)
  go_end0
  have hmb : bm ≠ b := map_ne_blk H.out.map H.out.hd
  have hmbs : bm ≠ bs := map_ne_blk H.out.map H.out.sec
  refine ⟨rfl, (Ext.refl hp).grown HW2.out (fun k' hk' => by injection hk' with hk'; subst hk'; exact .inl k.bm), .map [], ⟨?_, ?_, HO.out, MapIs.flushed d.l, ?_, H.out.cap, H.out.kne, H.out.ok.flushed⟩⟩
  · have := H.out.hd.grown HW2.out (by simpa using Ne.symm hmb)
    simpa using this
  · rw [secV_now (l := d.l.map Sec.flush) (l' := d.l) (by rw [List.map_map]; rfl)]
    exact H.out.sec.grown HW2.out (by simpa using Ne.symm hmbs)
  · intro hl
    obtain ⟨g, o, e, hg, hc⟩ := H.out.keep hl
    have hkn := H.out.kne _ e (by simpa using hl)
    exact ⟨g, o, e, Nat.lt_of_lt_of_le hg HW2.out.size, fun q hq => (World.cell?_of_block (w := w) (HW2.out.block g hg (by simpa using hkn.2.2))).trans (hc q hq)⟩
set_option maxRecDepth 100000 in
set_option maxHeartbeats 1600000 in
theorem work_flush (w : World) (col : Col) (c B0 b bs bm kc : Nat) (kA : Option Addr) (D : DataW Unit) (d : Dev) (h : DevB w b bs bm kA kc D d) (k : DevC col c b bs bm kA d.keep.length) (hp : Plain w col)
    (k0 : w.cell? ⟨B0, 0, none⟩ = some (.pointer (some ⟨b, 0, none⟩))) (n0 : col B0 ≠ c) :
    Calls Try.prog 24 #[.pointer (some ⟨b, 0, none⟩), .func (.func 30) #[] #[], .func (.func 31) #[] #[.pointer (some ⟨B0, 0, none⟩)]] w fun e w' =>
      e = .returned (.int .i64 (d.worked id (·.map Sec.flush)).2) ∧ Ext (· = c) w col w' col ∧ ∃ D', DevB w' b bs bm kA kc D' (d.worked id (·.map Sec.flush)).1 := by
  by_cases ht : d.til = 0
  · have e1 : d.worked id (·.map Sec.flush) = (d, 101) := by simp [Dev.worked, ht]
    rw [e1]
    have c4 := h.c4
    have hb4 : (d.til == 0) = true := by simp [ht]
    have HF : Hid (Ext (· = c) w col w col ∧ ∃ D', DevB w b bs bm kA kc D' d) := ⟨Ext.refl hp, D, h⟩
    clear e1 ht h k k0
    go_enter Try.func24, Try.ntmps24
    go_wp2_with fail
    go_ret
    exact ⟨rfl, HF.out⟩
  · have K0 := Lib.hid k0
    have c4 := h.c4
    have hb4 : (d.til == 0) = false := by simp [ht]
    have hlt := h.ok.left
    have htl := h.ok.til
    have H := Lib.hid h
    clear h k0
    by_cases hl : d.left = 0
    · have e1 : d.worked id (·.map Sec.flush) = (d.gone d.keep, 100) := by unfold Dev.worked; rw [if_neg ht, if_pos hl]; rfl
      rw [e1]
      have hb2 : (d.left == 0) = true := by simp [hl]
      clear e1 ht hl hlt htl
      go_enter Try.func24, Try.ntmps24
      go_wp2_with fail
      refine (nop_flush _).mono ?_
      rintro e w1 ⟨rfl, rfl⟩
      have q2 : w.cell? ⟨b, 2, none⟩ = some (.int .i64 d.left) := H.out.c2
      have q3 : w.cell? ⟨b, 3, none⟩ = some (.slice kA d.keep.length kc) := H.out.c3
      go_wp2_with fail
      refine (gone_is w col c b bs bm kc kA D _ H.out k hp d.keep kA kc H.out.keep H.out.cap H.out.kne).mono ?_
      rintro e w2 ⟨rfl, he2, h2⟩
      have HF : Hid (Ext (· = c) w col w2 col ∧ ∃ D', DevB w2 b bs bm kA kc D' (d.gone d.keep)) := ⟨he2, _, h2⟩
      clear he2 h2
      go_wp2_with fail
      go_ret
      exact ⟨rfl, HF.out⟩
    · have e1 : d.worked id (·.map Sec.flush) = ({ d with l := d.l.map Sec.flush, done := wrapI (d.done + 1), left := max (d.left - 1) (-1), til := max (d.til - 1) (-1) }, 0) := by simp [Dev.worked, ht, hl]
      rw [e1]
      have hb2 : (d.left == 0) = false := by simp [hl]
      clear e1 ht hl
      go_enter Try.func24, Try.ntmps24
      go_wp2_with fail
      refine (nop_flush _).mono ?_
      rintro e w0 ⟨rfl, rfl⟩
      have q20 : w.cell? ⟨b, 2, none⟩ = some (.int .i64 d.left) := H.out.c2
      go_wp2_with fail
      refine (mid_flush w col c B0 b bs bm kc kA D d H.out k hp K0.out n0).mono ?_
      rintro e w1 ⟨rfl, he, D1, h1⟩
      clear q20
      have q2 : w1.cell? ⟨b, 2, none⟩ = some (.int .i64 d.left) := h1.c2
      have q4 : w1.cell? ⟨b, 4, none⟩ = some (.int .i64 d.til) := h1.c4
      have q5 : w1.cell? ⟨b, 5, none⟩ = some (.int .i64 d.done) := h1.c5
      have z2 := h1.hd.frozen 2
      have z4 := h1.hd.frozen 4
      have z5 := h1.hd.frozen 5
      have H1 := Lib.hid h1
      have HE := Lib.hid he
      clear h1 he c4
      go_wp2_with fail
      have hb5 := H1.out.hd.set_ 5 (.int .i64 (wrap64 (d.done + 1)))
      have he5 : Ext (· = c) w1 col (w1.setCell ⟨b, 5, none⟩ (.int .i64 (wrap64 (d.done + 1)))) col := (Ext.refl HE.out.plain).setCell _ _ (.inl k.b)
      have hoth : ∀ q, q ≠ b → (w1.setCell ⟨b, 5, none⟩ (.int .i64 (wrap64 (d.done + 1)))).heap[q]? = w1.heap[q]? := fun q hq => Below.heap_setCell _ _ _ _ hq
      have HX := Lib.hid (And.intro hb5 (And.intro he5 hoth))
      clear hb5 he5 hoth q2 q4 q5 z2 z4 z5
      generalize w1.setCell ⟨b, 5, none⟩ (.int .i64 (wrap64 (d.done + 1))) = w2 at *
      have p2 : w2.cell? ⟨b, 2, none⟩ = some (.int .i64 d.left) := HX.out.1.cell 2
      have p4 : w2.cell? ⟨b, 4, none⟩ = some (.int .i64 d.til) := HX.out.1.cell 4
      have z2 := HX.out.1.frozen 2
      have z4 := HX.out.1.frozen 4
      go_region
      go_wp2
      go_ret
      have hbx := (HX.out.1.set_ 2 (.int .i64 (max (d.left - 1) (-1)))).set_ 4 (.int .i64 (max (d.til - 1) (-1)))
      have hex : Ext (· = c) w2 col ((w2.setCell ⟨b, 2, none⟩ (.int .i64 (max (d.left - 1) (-1)))).setCell ⟨b, 4, none⟩ (.int .i64 (max (d.til - 1) (-1)))).drew col := (((Ext.refl HX.out.2.1.plain).setCell _ _ (.inl k.b)).setCell _ _ (.inl k.b)).drew
      refine ⟨rfl, (HE.out.trans HX.out.2.1).trans hex, D1, ?_⟩
      have hok := H1.out.ok
      refine H1.out.head ?_ (fun q hq => ((Below.heap_setCell _ _ _ _ hq).trans (Below.heap_setCell _ _ _ _ hq)).trans (HX.out.2.2 q hq)) (Nat.le_trans HX.out.2.1.size hex.size) rfl rfl
        ⟨hok.now, hok.sure, hok.same, hok.few, hok.pos, ⟨by show _ ≤ max _ _; omega, by show max _ _ ≤ _; omega⟩, ⟨by show _ ≤ max _ _; omega, by show max _ _ ≤ _; omega⟩, wrapI_in _, hok.keep⟩ (H1.out.hd.ne_ H1.out.sec (by decide)) (map_ne_blk H1.out.map H1.out.hd)
      rw [show wrap64 (d.done + 1) = wrapI (d.done + 1) from by unfold wrap64 wrapI; rfl] at hbx
      refine Blk.drew ?_
      simpa using hbx
end Go.Proofs.Ytfcialmdediojaa
