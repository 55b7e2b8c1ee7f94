/-
  The law's pair: step: bytes written; all steps.
-/
import Derived.Test.YtfcialmdediojaaPairD
namespace Go.Proofs.Ytfcialmdediojaa
set_option linter.unusedVariables false
set_option linter.unusedSimpArgs false
open Go.RowKit
/-- a sector that begins with these -/
def blkOf (data : List UInt8) : List UInt8 := data.take 128 ++ zeros (128 - (data.take 128).length)
theorem blkOf_len (data : List UInt8) : (blkOf data).length = 128 := by simp [blkOf, zeros]; omega
theorem zeros_drop (n k : Nat) : (bytesV (zeros n)).drop k = bytesV (zeros (n - k)) := by simp [bytesV, zeros]
theorem blkOf_splice (data : List UInt8) : splice (bytesV (zeros 128)) 0 (bytesV (data.take 128)) = bytesV (blkOf data) := by
  unfold splice blkOf
  rw [List.take_zero, zeros_drop, bytesV_len, Nat.zero_add, List.nil_append]
  simp [bytesV]
set_option maxRecDepth 100000 in
set_option maxHeartbeats 1600000 in
theorem pair_step_write {w : World} {col : Col} {p : Nat} {first : Int} {d : Dev} {st : Option (Nat × Nat)} {D : Value} {K N : Int} {DA KA : Option Addr} {data : List UInt8} {keep : List Int} {dc kc B : Nat} (h : PairP w col p first d st) (hp : Plain w col) (hf : -1000000 ≤ first ∧ first ≤ 1000000)
    (hst : StB B st) (hB : 9007199254740991 ≤ B ∧ B ≤ 1152921504606846976) (hD : DeedV w col D K N DA data KA keep dc kc) (hk : K % (6 : Nat) = 5) :
    Calls Try.prog 21 #[.pointer (some ⟨p, 0, none⟩), .int .i64 first, D] w (StepEnd w col p first B) := by
  have hD0 := hD
  obtain ⟨⟨rfl, hkc⟩, -, -, -, -, hK, hN, hks, hfew⟩ := hD
  obtain ⟨db, du, vs, vm, hb, hd, hu, hps, hc5⟩ := h
  have H := Lib.hid (SS.begin hD0 hb hd hu hps hc5 hp)
  clear hD0 hb hd hu hps
  go_enter Try.func21, Try.ntmps21
  go_wp2_with fail
  refine (bring K 6 (by omega) hK.1 hK.2 (by omega)).mono ?_
  rintro e w1 ⟨rfl, rfl⟩
  rw [hk]
  clear hk
  go_upto_region 2 with fail
  generalize w.alloc (.cells #[.int .i64 K, .int .i64 N, .slice DA data.length dc, .slice KA keep.length kc] 43) = w1 at *
  generalize w.heap.size = g at *
  have H1 := H
  clear H
  have g2 : w1.cell? ⟨g, 2, none⟩ = some (.slice DA data.length dc) := H1.out.hg.cell 2
  have hmk : ∀ w, (Instr.makeSlice 27 (.int .i64 128) (.int .i64 128)).run Try.prog w = .ok (.slice (some ⟨w.heap.size, 0, none⟩) 128 128) (w.alloc (.cells (bytesV (zeros 128)).toArray 5)) := fun _ => by kernel_rfl
  have bz := Blk.new w1 5 (bytesV (zeros 128)).toArray
  have bb := (Below.refl w1.heap.size w1).alloc (Nat.le_refl _) (.cells (bytesV (zeros 128)).toArray 5)
  have HZ := Lib.hid (And.intro bz bb)
  have HNW : Hid (0 < (bytesV (data.take 128)).length → (some ⟨w1.heap.size, 0, none⟩ : Option Addr) = some ⟨w1.heap.size, 0, none⟩ ∧ ∃ ad, DA = some ad ∧ ∀ j v, (bytesV (data.take 128))[j]? = some v → (w1.alloc (.cells (bytesV (zeros 128)).toArray 5)).cell? (ad.add j) = some v) := Lib.hid fun hn => by
    have hs := H1.out.hda.alloc (.cells (bytesV (zeros 128)).toArray 5)
    have hn' : 0 < (bytesV data).length := by rw [bytesV_len] at hn ⊢; simp at hn; omega
    obtain ⟨b', o', e', _, _⟩ := hs hn'
    refine ⟨rfl, _, e', fun j v hv => hs.news e' j v ?_⟩
    rw [← hv]
    have hj : j < (bytesV (data.take 128)).length := (List.getElem?_eq_some_iff.1 hv).1
    simp [bytesV] at hj ⊢
    rw [List.getElem?_take_of_lt (by omega)]
    simp
  have g2' : (w1.alloc (.cells (bytesV (zeros 128)).toArray 5)).cell? ⟨g, 2, none⟩ = some (.slice DA data.length dc) := (H1.out.hg.alloc _).cell 2
  clear bz bb g2
  go_upto_region 3 with fail
  clear hmk
  go_wp2_with (refine wpList_copy_splice rfl (.tmp 13) (.tmp 15) 27 27 rfl 5 Try.underlying27 infoU8one (some ⟨w1.heap.size, 0, none⟩) DA 128 128 data.length dc rfl rfl w1.heap.size 0 (bytesV (zeros 128)) 5 HZ.out.1 (bytesV (data.take 128)) (by rw [bytesV_len]; simp [Nat.min_comm]) HNW.out (by rw [bytesV_len, bytesV_len]; simp [zeros]; omega) (oneCell_bytesV _) w1.heap.size w1 HZ.out.2 (Nat.le_refl _) ?_; intro w5 hg5 hb5)
  have hbl : Blk w5 w1.heap.size 5 (bytesV (blkOf data)).toArray := by
    have := hg5.out
    rw [blkOf_splice] at this; exact this
  have hx5 : Ext (fun _ => False) w1 col w5 col := .of_below hb5 H1.out.hx.plain
  have hs5 : Sl w5 (some ⟨w1.heap.size, 0, none⟩) (bytesV (blkOf data)) := Sl.of_blk hbl (fun j hj => by rw [Nat.zero_add, List.getElem?_toArray])
  have hc5' : SlCol col 0 (some ⟨w1.heap.size, 0, none⟩) (blkOf data).length := SlCol.new H1.out.hx.plain (Nat.le_refl _) _
  have H5 := Lib.hid (And.intro (H1.out.ext hx5) (And.intro hs5 hc5'))
  have hlen := blkOf_len data
  have HLEN := Lib.hid hlen
  generalize blkOf data = bk at *
  generalize w1.heap.size = z at *
  clear hg5 hb5 hbl hx5 hs5 hc5' HZ HNW g2' hlen H1
  have HL : Hid (∀ W cW, Ext (fun q => q = 1 ∨ q = 3) w5 col W cW → Sl W (some ⟨z, 0, none⟩) (bytesV bk) ∧ SlCol cW 0 (some ⟨z, 0, none⟩) bk.length) := Lib.hid fun W cW hW =>
    ⟨H5.out.2.1.ext hW (by rw [bytesV_len]; exact H5.out.2.2) (by omega), SS.slc H5.out.2.1 (by rw [bytesV_len]) H5.out.2.2 hW⟩
  have HW1 : Hid (∀ W, Ext (fun _ => False) w5 col W col → Calls Try.prog 11 #[.pointer (some ⟨db, 0, none⟩), .int .i64 N, .slice (some ⟨z, 0, none⟩) 128 128] W fun e w' => e = .returned (.int .i64 (d.write N bk).2) ∧ Ext (· = 1) W col w' col ∧ DevP w' col 1 db (d.write N bk).1) := Lib.hid fun W hW => by
    have h := HL.out W col (hW.mono fun _ h => h.elim)
    have := sector_write (H5.out.1.hD.ext hW (fun h => h)) hW.plain (by omega) N 128 h.1 (fun h0 ad ha => by rw [h.2 h0 ad ha]; omega)
    rwa [HLEN.out] at this
  have HW2 : Hid (∀ W, Ext (· = 1) w5 col W col → Calls Try.prog 49 #[.pointer (some ⟨du, 0, none⟩), .int .i64 N, .slice (some ⟨z, 0, none⟩) 128 128] W fun e w' => e = .returned (.int .i64 (d.write N bk).2) ∧ Ext (· = 3) W col w' col ∧ RefP w' col 3 du (d.write N bk).1) := Lib.hid fun W hW => by
    have h := HL.out W col (hW.mono fun _ h => .inl h)
    have := refdev_write (H5.out.1.hR.ext hW (by omega) (by omega)) hW.plain (by omega) N 128 h.1 h.2
    rwa [HLEN.out] at this
  have hp5 := H5.out.1.hx.plain
  have H1 := Lib.hid H5.out.1
  go_region_held3 (fun w' => w'.cell? ⟨p, 0, none⟩ = some (.pointer (some ⟨db, 0, none⟩)) ∧ w'.cell? ⟨p, 2, none⟩ = some (.pointer (some ⟨du, 0, none⟩)) ∧ w'.cell? ⟨g, 1, none⟩ = some (.int .i64 N) ∧ w'.cell? ⟨g, 3, none⟩ = some (.slice KA keep.length kc))
    (first | exact H1.out.drew.facts | exact hn.facts)
    ((go_at_call 11; refine (HW1.out _ (Ext.refl hp5).drew).mono ?_; rintro e w6 ⟨rfl, hex, hdn⟩; have hn := H1.out.drew.dev hex hdn))
  have H2 := Lib.hid hn
  have HX := Lib.hid ((Ext.refl hp5).drew.trans hex)
  clear hn hex hdn H1
  go_wp2_with fail
  go_region_held3 (fun w' => w'.cell? ⟨p, 0, none⟩ = some (.pointer (some ⟨db, 0, none⟩)) ∧ w'.cell? ⟨p, 2, none⟩ = some (.pointer (some ⟨du, 0, none⟩)) ∧ w'.cell? ⟨g, 1, none⟩ = some (.int .i64 N) ∧ w'.cell? ⟨g, 3, none⟩ = some (.slice KA keep.length kc))
    (first | exact H2.out.drew.facts | exact hn.facts)
    ((go_at_call 49; refine (HW2.out _ HX.out.drew).mono ?_; rintro e w7 ⟨rfl, hex, hdn⟩; have hn := H2.out.drew.ref hex hdn))
  have H3 := Lib.hid hn
  clear hn hex hdn H2
  go_wp2
  have HF : Hid (StepEnd w col p first B (.returned (.tuple #[])) w7) := Lib.hid ⟨rfl, _, _, _, H3.out.hx, H3.out.pair, hst.up⟩
  go_end0
  exact HF.out
theorem pair_step {w : World} {col : Col} {p : Nat} {first : Int} {d : Dev} {st : Option (Nat × Nat)} {D : Value} {K N : Int} {DA KA : Option Addr} {data : List UInt8} {keep : List Int} {dc kc B : Nat} (h : PairP w col p first d st) (hp : Plain w col) (hf : -1000000 ≤ first ∧ first ≤ 1000000)
    (hst : StB B st) (hB : 9007199254740991 ≤ B ∧ B ≤ 1152921504606846976) (hD : DeedV w col D K N DA data KA keep dc kc) :
    Calls Try.prog 21 #[.pointer (some ⟨p, 0, none⟩), .int .i64 first, D] w (StepEnd w col p first B) := by
  have hk : K % (6 : Nat) = 0 ∨ K % (6 : Nat) = 1 ∨ K % (6 : Nat) = 2 ∨ K % (6 : Nat) = 3 ∨ K % (6 : Nat) = 4 ∨ K % (6 : Nat) = 5 := by omega
  rcases hk with hk | hk | hk | hk | hk | hk
  · cases st with
    | none => exact pair_step_save_none h hp hf hst hB hD hk
    | some a => exact pair_step_save_some (t := a.1) (q := a.2) h hp hf hst hB hD hk
  · exact pair_step_opens h hp hf hst hB hD hk
  · exact pair_step_crash h hp hf hst hB hD hk
  · exact pair_step_fail h hp hf hst hB hD hk
  · exact pair_step_refuse h hp hf hst hB hD hk
  · exact pair_step_write h hp hf hst hB hD hk
end Go.Proofs.Ytfcialmdediojaa
