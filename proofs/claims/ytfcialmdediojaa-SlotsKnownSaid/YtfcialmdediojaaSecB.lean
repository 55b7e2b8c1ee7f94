/-
  The program's device: the middle of a Write.
-/
import Derived.Test.YtfcialmdediojaaSecA
import Derived.Deep.RegionHeld3
import Derived.Deep.DrawnRows
import Derived.Deep.MidRow
import Derived.Deep.DeepCutAuto
import Derived.Laws.Cover3
import Derived.StillTailTactics
import Derived.Lib.Hide
namespace Go.Proofs.Ytfcialmdediojaa
set_option linter.unusedVariables false
set_option linter.unusedSimpArgs false
open Go.RowKit
theorem infoBlock : (Try.prog.info? 67).map (·.size) = some 128 := by kernel_rfl
theorem zeroBlock (w : World) : (zeroValue 67).run Try.prog w = .ok (.agg (bytesV (zeros 128)).toArray) w := by kernel_rfl
theorem qArrayAt (w : World) (a : Option Addr) (c : Nat) : (Instr.arrayAt 67 (.slice a 128 c)).run Try.prog w = .ok (.pointer a) w := run_arrayAt _ _ _ _ a 128 c Try.underlying67 (Nat.le_refl _)
attribute [local go_sem] qArrayAt
theorem oneCell_bytes (l : List UInt8) : ∀ v ∈ bytesV l, v.oneCell' = true := fun v hv => by
  obtain ⟨c, _, rfl⟩ := List.mem_map.1 hv; rfl
theorem there_new (w : World) (Z : Array Value) (t : TypeId) : (w.alloc (.cells Z t)).there w.heap.size 0 Z.size := fun j hj => by
  have h := Blk.new w t Z
  rw [h.cell, h.frozen, Nat.zero_add]
  simp [hj]
theorem cellAD {w : World} {p : Addr} {v : Value} (o : Obj) (h : w.cell? p = some v) : (w.alloc o).drew.cell? p = some v := (World.cell?_alloc_some w p o (by rw [h]; rfl)).trans h
theorem heapAD {w W : World} {k : Nat} (o : Obj) (hk : k < w.heap.size) (h : w.heap[k]? = W.heap[k]?) : (w.alloc o).drew.heap[k]? = W.heap[k]? := (Below.heap_alloc w o k hk).trans h
theorem sizeZero : Try.zeroCells67.size = 128 := by kernel_rfl

/-- what the middle of a Write needs of the memory -/
structure MidW (w : World) (B0 B1 B2 b bs bm xb xo xc m i : Nat) (l : List Sec) (new : List UInt8) : Prop where
  k0 : w.cell? ⟨B0, 0, none⟩ = some (.pointer (some ⟨b, 0, none⟩))
  k1 : w.cell? ⟨B1, 0, none⟩ = some (.int .i64 i)
  k2 : w.cell? ⟨B2, 0, none⟩ = some (.slice (some ⟨xb, xo, none⟩) 128 xc)
  h0 : w.cell? ⟨b, 0, none⟩ = some (.slice (some ⟨bs, 0, none⟩) m m)
  h1 : w.cell? ⟨b, 1, none⟩ = some (.map (some bm))
  sec : Blk w bs 67 (secV l).toArray
  all : All128 l
  len : l.length = m
  lt : i < m
  x : w.rangeAt xb xo (bytesV new)
  nlen : new.length = 128
  few : m ≤ 8192
  ne : B0 ≠ bs ∧ B1 ≠ bs ∧ B2 ≠ bs ∧ b ≠ bs ∧ xb ≠ bs
theorem lt_of_cell {w : World} {p : Addr} {v : Value} (h : w.cell? p = some v) : p.block < w.heap.size := World.block_lt_of_cell? w p h
theorem MidW.keep {w w' : World} {B0 B1 B2 b bs bm xb xo xc m i : Nat} {l : List Sec} {new : List UInt8} (h : MidW w B0 B1 B2 b bs bm xb xo xc m i l new)
    (he : ∀ k, k < w.heap.size → k ≠ bm → w'.heap[k]? = w.heap[k]?) (n0 : B0 ≠ bm) (n1 : B1 ≠ bm) (n2 : B2 ≠ bm) (n3 : b ≠ bm) (n4 : bs ≠ bm) (n5 : xb ≠ bm) : MidW w' B0 B1 B2 b bs bm xb xo xc m i l new := by
  have c : ∀ {p : Addr} {v : Value}, w.cell? p = some v → p.block ≠ bm → w'.cell? p = some v := fun hp hn => (World.cell?_of_block (he _ (lt_of_cell hp) hn)).trans hp
  exact ⟨c h.k0 n0, c h.k1 n1, c h.k2 n2, c h.h0 n3, c h.h1 n3, h.sec.of (he _ h.sec.lt n4), h.all, h.len, h.lt, fun j v hv => c (h.x j v hv) n5, h.nlen, h.few, h.ne⟩
theorem MidW.below {w w' : World} {B0 B1 B2 b bs bm xb xo xc m i : Nat} {l : List Sec} {new : List UInt8} (h : MidW w B0 B1 B2 b bs bm xb xo xc m i l new)
    (hb : Below w.heap.size w w') : MidW w' B0 B1 B2 b bs bm xb xo xc m i l new := by
  have c : ∀ {p : Addr} {v : Value}, w.cell? p = some v → w'.cell? p = some v := fun hp => (hb.cell (lt_of_cell hp)).trans hp
  exact ⟨c h.k0, c h.k1, c h.k2, c h.h0, c h.h1, h.sec.below hb h.sec.lt, h.all, h.len, h.lt, fun j v hv => c (h.x j v hv), h.nlen, h.few, h.ne⟩
theorem below_look {w w' : World} {bm : Nat} (hb : Below w.heap.size w w') (hbm : bm < w.heap.size) : w'.heap[bm]? = w.heap[bm]? := hb.block bm hbm
theorem bel0 (w : World) : Below w.heap.size w w.drew := (Below.refl _ _).drew
theorem bel1 (w : World) (o : Obj) : Below w.heap.size w (w.alloc o).drew := ((Below.refl _ _).alloc (Nat.le_refl _) o).drew
theorem bel2 (w : World) (o : Obj) (vs : List Value) : Below w.heap.size w ((w.alloc o).drew.setCells w.heap.size 0 vs) := Below.setCells (Nat.le_refl _) vs 0 (bel1 w o)
/-- what the last region of it reads, and where it writes -/
def MidS (B0 B1 B2 b bs xb xo xc m i : Nat) (new : List UInt8) (W : World) : Prop :=
  W.cell? ⟨B0, 0, none⟩ = some (.pointer (some ⟨b, 0, none⟩)) ∧ W.cell? ⟨B1, 0, none⟩ = some (.int .i64 i) ∧ W.cell? ⟨B2, 0, none⟩ = some (.slice (some ⟨xb, xo, none⟩) 128 xc) ∧
    W.cell? ⟨b, 0, none⟩ = some (.slice (some ⟨bs, 0, none⟩) m m) ∧ W.rangeAt xb xo (bytesV new) ∧ W.there bs (i * 128) 128
theorem MidW.mids {w w' : World} {B0 B1 B2 b bs bm xb xo xc m i : Nat} {l : List Sec} {new : List UInt8} (h : MidW w B0 B1 B2 b bs bm xb xo xc m i l new) (hb : Below w.heap.size w w') : MidS B0 B1 B2 b bs xb xo xc m i new w' := by
  have g := h.below hb
  exact ⟨g.k0, g.k1, g.k2, g.h0, g.x, g.sec.there (by rw [List.size_toArray, secV_len g.all, g.len]; have := g.lt; omega)⟩
theorem MidS.put {w : World} {B0 B1 B2 b bs xb xo xc m i : Nat} {new : List UInt8} (h : MidS B0 B1 B2 b bs xb xo xc m i new w) (ne : B0 ≠ bs ∧ B1 ≠ bs ∧ B2 ≠ bs ∧ b ≠ bs ∧ xb ≠ bs) (o : Nat) (vs : List Value) : MidS B0 B1 B2 b bs xb xo xc m i new (w.setCells bs o vs) := by
  obtain ⟨k0, k1, k2, h0, hx, ht⟩ := h
  obtain ⟨n0, n1, n2, n3, n4⟩ := ne
  have c : ∀ {p : Addr} {v : Value}, w.cell? p = some v → p.block ≠ bs → (w.setCells bs o vs).cell? p = some v := fun hp hn => (World.cell?_of_block (heap_setCells w bs o vs hn)).trans hp
  exact ⟨c k0 n0, c k1 n1, c k2 n2, c h0 n3, fun j v hv => c (hx j v hv) n4, World.there_setCells ht _ _ _⟩
set_option maxRecDepth 100000 in
set_option maxHeartbeats 1600000 in
/-- the sector is in the map already -/
theorem write_mid_had (w : World) (col : Col) (c : Nat) (B0 B1 B2 b bs bm xb xo xc m i : Nat) (l : List Sec) (new l0 : List UInt8) (h : MidW w B0 B1 B2 b bs bm xb xo xc m i l new)
    (hbm : bm < w.heap.size) (hl0 : l0.length = 128) (hp : Plain w col) (hcs : col bs = c) (hmb : bm ≠ bs)
    (hlk : ∀ W : World, W.heap[bm]? = w.heap[bm]? → (Instr.lookup 38 (.map (some bm)) (.int .i64 i) true).run Try.prog W = .ok (.tuple #[.agg (bytesV l0).toArray, .bool true]) W) :
    Calls Try.prog 25 #[.pointer (some ⟨B0, 0, none⟩), .pointer (some ⟨B1, 0, none⟩), .pointer (some ⟨B2, 0, none⟩)] w fun e w' => e = .returned (.tuple #[]) ∧
      Ext (· = c) w col w' col ∧ Blk w' bs 67 (putL (secV l).toArray (128 * i) (bytesV new)) ∧ w'.heap[bm]? = w.heap[bm]? ∧ ∀ q, q < w.heap.size → q ≠ bs → w'.heap[q]? = w.heap[q]? := by
  have hth : (w.alloc (.cells Try.zeroCells67 67)).drew.there w.heap.size 0 (bytesV l0).toArray.size := by
    have e : (bytesV l0).toArray.size = Try.zeroCells67.size := by rw [List.size_toArray, bytesV_len, hl0, sizeZero]
    rw [e]; exact there_new w _ _
  have hone := oneCell_bytes l0
  have hsz : (bytesV l0).length = 128 := by rw [bytesV_len, hl0]
  have hinf := infoBlock
  have hS : ∀ w', Below w.heap.size w w' → w'.cell? ⟨B0, 0, none⟩ = some (.pointer (some ⟨b, 0, none⟩)) ∧ w'.cell? ⟨B1, 0, none⟩ = some (.int .i64 i) ∧ w'.cell? ⟨b, 1, none⟩ = some (.map (some bm)) ∧
      (Instr.lookup 38 (.map (some bm)) (.int .i64 i) true).run Try.prog w' = .ok (.tuple #[.agg (bytesV l0).toArray, .bool true]) w' :=
    fun w' hb => let g := h.below hb; ⟨g.k0, g.k1, g.h1, hlk w' (below_look hb hbm)⟩
  have HS := Lib.hid hS
  have HH := Lib.hid h
  clear hlk hS h
  go_enter Try.func25, Try.ntmps25
  go_wp2_with fail
  go_cut [4] (fun v wx => v = .bool true ∧ Below w.heap.size w wx)
  case first =>
    go_region_held3 (fun w' => w'.cell? ⟨B0, 0, none⟩ = some (.pointer (some ⟨b, 0, none⟩)) ∧ w'.cell? ⟨B1, 0, none⟩ = some (.int .i64 i) ∧ w'.cell? ⟨b, 1, none⟩ = some (.map (some bm)) ∧
        (Instr.lookup 38 (.map (some bm)) (.int .i64 i) true).run Try.prog w' = .ok (.tuple #[.agg (bytesV l0).toArray, .bool true]) w')
      (first | exact HS.out _ (bel0 w) | exact HS.out _ (bel1 w _) | exact HS.out _ (bel2 w _ _)) (fail)
    all_goals (go_wp2_with fail; go_meet; exact ⟨rfl, bel2 w _ _⟩)
  case rest =>
    obtain ⟨rfl, hb⟩ := hcut
    have HG := Lib.hid (HH.out.below hb)
    have HB := Lib.hid hb
    clear hb hsz hone
    have hone := oneCell_bytes new
    have hsz : (bytesV new).length = 128 := by rw [bytesV_len, HG.out.nlen]
    have hu := Try.underlying67
    have hi : (Try.prog.info? 67).map (·.size) = some (bytesV new).length := by rw [hsz]; exact infoBlock
    have i0 : (0 : Int) ≤ (i : Int) := by omega
    have i1 : (i : Int) < (m : Int) := by have := HG.out.lt; omega
    go_wp2
    go_region_held3 (fun w' => w'.cell? ⟨B0, 0, none⟩ = some (.pointer (some ⟨b, 0, none⟩)) ∧ w'.cell? ⟨B1, 0, none⟩ = some (.int .i64 i) ∧ w'.cell? ⟨B2, 0, none⟩ = some (.slice (some ⟨xb, xo, none⟩) 128 xc) ∧
        w'.cell? ⟨b, 0, none⟩ = some (.slice (some ⟨bs, 0, none⟩) m m) ∧ w'.rangeAt xb xo (bytesV new) ∧ w'.there bs (i * 128) 128)
      (first | exact HG.out.mids (bel0 wc) | exact (HG.out.mids (bel0 wc)).put HG.out.ne _ _) (fail)
    go_wp2
    go_end0
    have he : Ext (· = c) w col wc.drew col := (Ext.of_below HB.out hp).drew
    refine ⟨rfl, Ext.setCells (.inl hcs) _ _ he, by rw [Nat.mul_comm 128 i]; exact Blk.setCells (w := wc.drew) _ _ HG.out.sec, ?_, fun q hq hne => ?_⟩
    · rw [heap_setCells _ _ _ _ hmb]; exact HB.out.block bm hbm
    · rw [heap_setCells _ _ _ _ hne]; exact HB.out.block q hq
set_option maxRecDepth 100000 in
set_option maxHeartbeats 1600000 in
/-- the sector is not in the map yet -/
theorem write_mid_new (w : World) (col : Col) (c : Nat) (B0 B1 B2 b bs bm xb xo xc m i : Nat) (l : List Sec) (new l0 : List UInt8) (h : MidW w B0 B1 B2 b bs bm xb xo xc m i l new)
    (hbm : bm < w.heap.size) (hl0 : l0.length = 128) (hp : Plain w col) (hcs : col bs = c) (hmb : bm ≠ bs)
    (hlk : ∀ W : World, W.heap[bm]? = w.heap[bm]? → (Instr.lookup 38 (.map (some bm)) (.int .i64 i) true).run Try.prog W = .ok (.tuple #[.agg (bytesV l0).toArray, .bool false]) W)
    (n : Nat) (D : DataW Unit) (hown : w.ownsMap Try.prog 3 blkR bm n D) (hn : n < maxLen) (hcm : col bm = c)
    (nm : B0 ≠ bm ∧ B1 ≠ bm ∧ B2 ≠ bm ∧ b ≠ bm ∧ xb ≠ bm) (old : List UInt8) (hold : (l[i]'(by rw [h.len]; exact h.lt)).now = old) :
    Calls Try.prog 25 #[.pointer (some ⟨B0, 0, none⟩), .pointer (some ⟨B1, 0, none⟩), .pointer (some ⟨B2, 0, none⟩)] w fun e w' => e = .returned (.tuple #[]) ∧
      Ext (· = c) w col w' col ∧ Blk w' bs 67 (putL (secV l).toArray (128 * i) (bytesV new)) ∧
      w'.ownsMap Try.prog 3 blkR bm (n + 1) (D.put (keyZ i) (datB (bytesV old))) ∧ ∀ q, q < w.heap.size → q ≠ bs → q ≠ bm → w'.heap[q]? = w.heap[q]? := by
  have hth : (w.alloc (.cells Try.zeroCells67 67)).drew.there w.heap.size 0 (bytesV l0).toArray.size := by
    have e : (bytesV l0).toArray.size = Try.zeroCells67.size := by rw [List.size_toArray, bytesV_len, hl0, sizeZero]
    rw [e]; exact there_new w _ _
  have hone := oneCell_bytes l0
  have hsz : (bytesV l0).length = 128 := by rw [bytesV_len, hl0]
  have hinf := infoBlock
  have hS : ∀ w', Below w.heap.size w w' → w'.cell? ⟨B0, 0, none⟩ = some (.pointer (some ⟨b, 0, none⟩)) ∧ w'.cell? ⟨B1, 0, none⟩ = some (.int .i64 i) ∧ w'.cell? ⟨b, 1, none⟩ = some (.map (some bm)) ∧
      (Instr.lookup 38 (.map (some bm)) (.int .i64 i) true).run Try.prog w' = .ok (.tuple #[.agg (bytesV l0).toArray, .bool false]) w' :=
    fun w' hb => let g := h.below hb; ⟨g.k0, g.k1, g.h1, hlk w' (below_look hb hbm)⟩
  have HS := Lib.hid hS
  have HH := Lib.hid h
  have hown1 := Lib.hid hown
  have hold1 : l[i]? = some (l[i]'(by rw [h.len]; exact h.lt)) := List.getElem?_eq_getElem _
  have hol : old.length = 128 := by rw [← hold]; exact h.all _ (List.getElem_mem _)
  have hR : Hid (∀ W : World, MidW W B0 B1 B2 b bs bm xb xo xc m i l new → W.rangeAt bs (i * 128) (bytesV old)) := fun W g => by
    have := secV_range h.all (by rw [h.len]; exact h.lt : i < l.length)
    rw [hold, Nat.mul_comm] at this
    exact g.sec.rangeAt this
  clear hlk hS hown hold1 hold h
  go_enter Try.func25, Try.ntmps25
  go_wp2_with fail
  go_cut [4] (fun v wx => v = .bool false ∧ Below w.heap.size w wx)
  case first =>
    go_region_held3 (fun w' => w'.cell? ⟨B0, 0, none⟩ = some (.pointer (some ⟨b, 0, none⟩)) ∧ w'.cell? ⟨B1, 0, none⟩ = some (.int .i64 i) ∧ w'.cell? ⟨b, 1, none⟩ = some (.map (some bm)) ∧
        (Instr.lookup 38 (.map (some bm)) (.int .i64 i) true).run Try.prog w' = .ok (.tuple #[.agg (bytesV l0).toArray, .bool false]) w')
      (first | exact HS.out _ (bel0 w) | exact HS.out _ (bel1 w _) | exact HS.out _ (bel2 w _ _)) (fail)
    all_goals (go_wp2_with fail; go_meet; exact ⟨rfl, bel2 w _ _⟩)
  case rest =>
    obtain ⟨rfl, hb⟩ := hcut
    have HG := Lib.hid (HH.out.below hb)
    have HB := Lib.hid hb
    clear hb hsz hone
    have hone := oneCell_bytes new
    have hsz : (bytesV new).length = 128 := by rw [bytesV_len, HG.out.nlen]
    have hu := Try.underlying67
    have hio : (Try.prog.info? 67).map (·.size) = some (bytesV old).length := by rw [bytesV_len, hol]; exact infoBlock
    have i0 : (0 : Int) ≤ (i : Int) := by omega
    have i1 : (i : Int) < (m : Int) := by have := HG.out.lt; omega
    have hwf : (Lit.int .i64 (i : Int)).wf = true := by
      have h1 := HG.out.lt; have h2 := HG.out.few
      exact wf_i64 (by omega) (by omega)
    have hownc : wc.drew.ownsMap Try.prog 3 blkR bm n D := (hown1.out.kept (grown_of_below HB.out none) (by simp)).drew
    obtain ⟨w2, hrun, hown2, hgrow⟩ := hownc.update (val := .agg (bytesV old).toArray) (d := datB (bytesV old)) (ps := []) keyedInt Try.underlying38 hn (Go.Maps.keyOf_int_mk Try.underlying3 hwf) (by simp [blkR])
    have Hown2 := Lib.hid hown2
    have Hgrow := Lib.hid hgrow
    have hne := HG.out.ne
    have HG2 : Hid (MidW w2 B0 B1 B2 b bs bm xb xo xc m i l new) := HG.out.keep (w' := w2) (fun k hk hkb => hgrow.block k hk (by simpa using hkb)) nm.1 nm.2.1 nm.2.2.1 nm.2.2.2.1 (Ne.symm hmb) nm.2.2.2.2
    clear hown2 hgrow hownc
    have HS0 : Hid (∀ W : World, MidW W B0 B1 B2 b bs bm xb xo xc m i l new → W.cell? ⟨B0, 0, none⟩ = some (.pointer (some ⟨b, 0, none⟩)) ∧ W.cell? ⟨B1, 0, none⟩ = some (.int .i64 i) ∧
        W.cell? ⟨b, 0, none⟩ = some (.slice (some ⟨bs, 0, none⟩) m m) ∧ W.cell? ⟨b, 1, none⟩ = some (.map (some bm)) ∧ W.rangeAt bs (i * 128) (bytesV old)) := fun W g => ⟨g.k0, g.k1, g.h0, g.h1, hR.out W g⟩
    have hiold := hio
    go_wp2
    go_region_held3 (fun w' => w'.cell? ⟨B0, 0, none⟩ = some (.pointer (some ⟨b, 0, none⟩)) ∧ w'.cell? ⟨B1, 0, none⟩ = some (.int .i64 i) ∧
        w'.cell? ⟨b, 0, none⟩ = some (.slice (some ⟨bs, 0, none⟩) m m) ∧ w'.cell? ⟨b, 1, none⟩ = some (.map (some bm)) ∧ w'.rangeAt bs (i * 128) (bytesV old))
      (first | exact HS0.out _ (HG.out.below (bel0 wc)) | exact HS0.out _ HG2.out) (fail)
    have hi : (Try.prog.info? 67).map (·.size) = some (bytesV new).length := by rw [hsz]; exact infoBlock
    go_wp2
    go_region_held3 (fun w' => w'.cell? ⟨B0, 0, none⟩ = some (.pointer (some ⟨b, 0, none⟩)) ∧ w'.cell? ⟨B1, 0, none⟩ = some (.int .i64 i) ∧ w'.cell? ⟨B2, 0, none⟩ = some (.slice (some ⟨xb, xo, none⟩) 128 xc) ∧
        w'.cell? ⟨b, 0, none⟩ = some (.slice (some ⟨bs, 0, none⟩) m m) ∧ w'.rangeAt xb xo (bytesV new) ∧ w'.there bs (i * 128) 128)
      (first | exact HG2.out.mids (bel0 w2) | exact (HG2.out.mids (bel0 w2)).put HG.out.ne _ _) (fail)
    go_wp2
    go_end0
    have he : Ext (· = c) w col w2.drew col := ((Ext.of_below HB.out hp).drew.grown Hgrow.out (fun k hk => by injection hk with hk; subst hk; exact .inl hcm)).drew
    refine ⟨rfl, Ext.setCells (.inl hcs) _ _ he, by rw [Nat.mul_comm 128 i]; exact Blk.setCells (w := w2.drew) _ _ HG2.out.sec, ?_, fun q hq h1 h2 => by
      rw [heap_setCells _ _ _ _ h1]
      exact (Hgrow.out.block q (Nat.lt_of_lt_of_le hq HB.out.size) (by simpa using h2)).trans (HB.out.block q hq)⟩
    exact (Hown2.out.drew).kept (grown_setCells _ _ _ _) (by simpa using hmb)
end Go.Proofs.Ytfcialmdediojaa
