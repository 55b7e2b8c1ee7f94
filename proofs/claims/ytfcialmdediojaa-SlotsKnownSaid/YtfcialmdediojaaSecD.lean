/-
  The program's device: Write, Flush.
-/
import Derived.Test.YtfcialmdediojaaSecC
import Derived.BigRegion
namespace Go.Proofs.Ytfcialmdediojaa
set_option linter.unusedVariables false
set_option linter.unusedSimpArgs false
open Go.RowKit

theorem all128 {d : Dev} (h : d.OK) : All128 d.l := h.now
theorem key_ne {i j : Nat} (h : i ≠ j) : keyZ i ≠ keyZ j := fun e => h (by injection e with _ e; omega)
theorem countP_put : ∀ (l : List Sec) (i : Nat) (hi : i < l.length), l[i].wr = false → ∀ {new : List UInt8}, (l.modify i (Sec.put new)).countP Sec.wr = l.countP Sec.wr + 1
  | s :: r, 0, _, h, new => by
    have h' : s.wr = false := h
    simp [List.modify_cons, List.countP_cons, Sec.put, h']
  | s :: r, i + 1, hi, h, new => by
    have ih := countP_put r i (by simpa using hi) (by simpa using h) (new := new)
    simp only [List.modify_succ_cons, List.countP_cons, ih]
    omega
theorem countP_had : ∀ (l : List Sec) (i : Nat) (hi : i < l.length), l[i].wr = true → ∀ {new : List UInt8}, (l.modify i (Sec.put new)).countP Sec.wr = l.countP Sec.wr
  | s :: r, 0, _, h, new => by
    have h' : s.wr = true := h
    simp [List.modify_cons, List.countP_cons, Sec.put, h']
  | s :: r, i + 1, hi, h, new => by
    have ih := countP_had r i (by simpa using hi) (by simpa using h) (new := new)
    simp only [List.modify_succ_cons, List.countP_cons, ih]
theorem MapIs.put {D : DataW Unit} {l : List Sec} (h : MapIs D l) (hT : Go.Maps.Tidy D) {i : Nat} (hi : i < l.length) (hw : l[i].wr = false) (hs : l[i].sure = l[i].now) (new : List UInt8) :
    MapIs (D.put (keyZ i) (datB (bytesV l[i].now))) (l.modify i (Sec.put new)) := by
  have hk : WideAt.IsKeyLit (keyZ i) := trivial
  have hM := hT.isMap
  refine ⟨fun j hj => ?_, fun j hj hjw z => ?_, fun k hkk => ?_, ?_⟩
  · have hj' : j < l.length := by simpa using hj
    rw [List.getElem_modify]
    by_cases e : i = j
    · subst e; rw [if_pos rfl, Go.Maps.has_put_same hM hk]; rfl
    · rw [if_neg e, Go.Maps.has_put_other (key_ne (Ne.symm e))]; exact h.has j hj'
  · have hj' : j < l.length := by simpa using hj
    by_cases e : i = j
    · subst e
      rw [Go.Maps.atKey_put_same hM hk]
      simp only [List.getElem_modify, if_true]
      show _ = datB (bytesV l[i].sure)
      rw [hs]
    · simp only [List.getElem_modify, if_neg e] at hjw ⊢
      rw [Go.Maps.atKey_put_other (key_ne (Ne.symm e))]; exact h.at_ j hj' hjw z
  · by_cases e : k = keyZ i
    · exact ⟨i, by simpa using hi, e⟩
    · rw [Go.Maps.has_put_other e] at hkk
      obtain ⟨j, hj, e2⟩ := h.only k hkk
      exact ⟨j, by simpa using hj, e2⟩
  · rw [Go.Maps.size_put hT, h.has i hi, hw, h.count, countP_put l i hi hw]; rfl

theorem ownsMap_heap {H : Type} {P : Program} {k : TypeId} {R : Value → Option (DataW H × List MemPlace)} {w W : World} {b n : Nat} {D : DataW H} (h : w.ownsMap P k R b n D) (e : W.heap[b]? = w.heap[b]?) : W.ownsMap P k R b n D := by
  obtain ⟨es, clock, hb, F, hs, hD⟩ := h
  exact ⟨es, clock, e.trans hb, F, hs, hD⟩
theorem blkR_inv {v : Value} {l : List UInt8} {ps : List MemPlace} (h : blkR v = some (datB (bytesV l), ps)) : v = .agg (bytesV l).toArray := by
  unfold blkR at h
  split at h
  · rename_i cs
    simp only [Option.some.injEq, Prod.mk.injEq] at h
    rw [← datB_inv _ _ h.1]
  · cases h
/-- 'v, ok := sure[i]' -/
theorem look_ok2 {W : World} {bm n : Nat} {D : DataW Unit} {l : List Sec} (hown : W.ownsMap Try.prog 3 blkR bm n D) (is : MapIs D l) {i : Nat} (hi : i < l.length) (hl : l.length ≤ 8192) :
    (Instr.lookup 38 (.map (some bm)) (.int .i64 (i : Int)) true).run Try.prog W = .ok (.tuple #[.agg (bytesV (if l[i].wr = true then l[i].sure else zeros 128)).toArray, .bool l[i].wr]) W := by
  obtain ⟨v, ps, hrun, hv⟩ := hown.look_ok keyedInt Try.underlying38 (zeroBlock W) (zd := datB (bytesV (zeros 128))) (zp := []) (by simp [blkR]) (Go.Maps.keyOf_int_mk Try.underlying3 (wf_i64 (x := (i : Int)) (by omega) (by omega)))
  rw [show Lit.int .i64 (i : Int) = keyZ i from rfl] at hrun hv
  rw [is.has i hi] at hrun
  rw [hrun]
  by_cases hw : l[i].wr = true
  · rw [is.at_ i hi hw] at hv
    rw [if_pos hw, blkR_inv hv]
  · rw [Go.Maps.atKey_of_not_has (by rw [is.has i hi]; simpa using hw)] at hv
    rw [if_neg hw, blkR_inv hv]
/-- what the middle of a Write does -/
theorem mid_write (w : World) (col : Col) (c B0 B1 B2 b bs bm kc xb xo xc i : Nat) (kA : Option Addr) (D : DataW Unit) (d : Dev) (new : List UInt8) (h : DevB w b bs bm kA kc D d) (k : DevC col c b bs bm kA d.keep.length) (hp : Plain w col)
    (k0 : w.cell? ⟨B0, 0, none⟩ = some (.pointer (some ⟨b, 0, none⟩))) (k1 : w.cell? ⟨B1, 0, none⟩ = some (.int .i64 (i : Int))) (k2 : w.cell? ⟨B2, 0, none⟩ = some (.slice (some ⟨xb, xo, none⟩) 128 xc))
    (hi : i < d.l.length) (hx : w.rangeAt xb xo (bytesV new)) (hn : new.length = 128) (n0 : col B0 ≠ c) (n1 : col B1 ≠ c) (n2 : col B2 ≠ c) (nx : col xb ≠ c) :
    Calls Try.prog 25 #[.pointer (some ⟨B0, 0, none⟩), .pointer (some ⟨B1, 0, none⟩), .pointer (some ⟨B2, 0, none⟩)] w fun e w' => e = .returned (.tuple #[]) ∧
      Ext (· = c) w col w' col ∧ ∃ D', DevB w' b bs bm kA kc D' { d with l := d.l.modify i (Sec.put new) } := by
  have ne : ∀ {x y : Nat}, col x ≠ c → col y = c → x ≠ y := fun h1 h2 e => h1 (by rw [e]; exact h2)
  have hbbs : b ≠ bs := h.hd.ne_ h.sec (by decide)
  have hmbs : bm ≠ bs := map_ne_blk h.map h.sec
  have hmb : bm ≠ b := map_ne_blk h.map h.hd
  have hM : MidW w B0 B1 B2 b bs bm xb xo xc d.l.length i d.l new := ⟨k0, k1, k2, h.c0, h.c1, h.sec, h.ok.now, rfl, hi, hx, hn, h.ok.few, ne n0 k.bs, ne n1 k.bs, ne n2 k.bs, hbbs, ne nx k.bs⟩
  have hlt : bm < w.heap.size := h.map.lt
  have hall := put_all h.ok hn i
  have hok : ({ d with l := d.l.modify i (Sec.put new) } : Dev).OK :=
    ⟨fun s hs => (hall.2 s hs).1, fun s hs => (hall.2 s hs).2.1, fun s hs => (hall.2 s hs).2.2, by show (d.l.modify i (Sec.put new)).length ≤ _; rw [hall.1]; exact h.ok.few, by show _ ≤ (d.l.modify i (Sec.put new)).length; rw [hall.1]; exact h.ok.pos, h.ok.left, h.ok.til, h.ok.done, h.ok.keep⟩
  have hput : putL (secV d.l).toArray (128 * i) (bytesV new) = (secV (d.l.modify i (Sec.put new))).toArray := secV_put h.ok.now hi (Sec.put new) (fun _ _ => hn) new rfl
  -- what stays: the head, and the list of what is to be kept
  have hstay : ∀ w' : World, Ext (· = c) w col w' col → (∀ q, q < w.heap.size → q ≠ bs → q ≠ bm → w'.heap[q]? = w.heap[q]?) → Blk w' b 41 #[.slice (some ⟨bs, 0, none⟩) d.l.length d.l.length, .map (some bm), .int .i64 d.left, .slice kA d.keep.length kc, .int .i64 d.til, .int .i64 d.done, .bool d.dead] ∧ Sl w' kA (d.keep.map intV) := fun w' he hq => by
    refine ⟨h.hd.of (hq b h.hd.lt hbbs (Ne.symm hmb)), fun hl => ?_⟩
    obtain ⟨g, o, e, hg, hc⟩ := h.keep hl
    have hkn := h.kne _ e (by simpa using hl)
    exact ⟨g, o, e, Nat.lt_of_lt_of_le hg he.size, fun q hqq => (World.cell?_of_block (w := w) (hq g hg hkn.2.1 hkn.2.2)).trans (hc q hqq)⟩
  by_cases hw : d.l[i].wr = true
  · refine (write_mid_had w col c B0 B1 B2 b bs bm xb xo xc d.l.length i d.l new d.l[i].sure hM hlt (h.ok.sure _ (List.getElem_mem _)) hp k.bs hmbs (fun W e => ?_)).mono ?_
    · have := look_ok2 (ownsMap_heap h.map e) h.is hi h.ok.few
      rw [hw, if_pos rfl] at this; exact this
    · rintro e w' ⟨rfl, he, hb, hm, hq⟩
      obtain ⟨s1, s2⟩ := hstay w' he (fun q h1 h2 _ => hq q h1 h2)
      refine ⟨rfl, he, D, ⟨by simpa using s1, by rw [hput] at hb; exact hb, ownsMap_heap h.map hm, ?_, s2, h.cap, h.kne, hok⟩⟩
      -- the map is of the sectors as they were
      refine ⟨fun j hj => ?_, fun j hj hjw z => ?_, fun kk hk => ?_, ?_⟩
      · have hj' : j < d.l.length := by simpa using hj
        rw [h.is.has j hj', List.getElem_modify]
        split
        · rename_i e; subst e; rw [hw]; rfl
        · rfl
      · have hj' : j < d.l.length := by simpa using hj
        simp only [List.getElem_modify] at hjw ⊢
        by_cases e : i = j
        · subst e; simp only [if_true]; exact h.is.at_ i hi hw z
        · rw [if_neg e] at hjw ⊢; exact h.is.at_ j hj' hjw z
      · obtain ⟨j, hj, e⟩ := h.is.only kk hk; exact ⟨j, by simpa using hj, e⟩
      · rw [h.is.count]; exact (countP_had d.l i hi hw).symm
  · have hw' : d.l[i].wr = false := by simpa using hw
    have hsz : Go.Maps.size D ≤ 8192 := Nat.le_trans h.is.size h.ok.few
    refine (write_mid_new w col c B0 B1 B2 b bs bm xb xo xc d.l.length i d.l new (zeros 128) hM hlt (by simp [zeros]) hp k.bs hmbs (fun W e => ?_) (Go.Maps.size D) D h.map (by unfold maxLen; omega) k.bm
      ⟨ne n0 k.bm, ne n1 k.bm, ne n2 k.bm, Ne.symm hmb, ne nx k.bm⟩ d.l[i].now rfl).mono ?_
    · have := look_ok2 (ownsMap_heap h.map e) h.is hi h.ok.few
      rw [hw', if_neg (by decide)] at this; exact this
    · rintro e w' ⟨rfl, he, hb, hown, hq⟩
      obtain ⟨s1, s2⟩ := hstay w' he hq
      have hT := h.map.tidy keyedInt
      have hsame := h.ok.same _ (List.getElem_mem hi) hw'
      have his := h.is.put hT hi hw' hsame new
      refine ⟨rfl, he, _, ⟨by simpa using s1, by rw [hput] at hb; exact hb, ?_, his, s2, h.cap, h.kne, hok⟩⟩
      rw [Go.Maps.size_put hT, h.is.has i hi, hw']; exact hown
end Go.Proofs.Ytfcialmdediojaa
