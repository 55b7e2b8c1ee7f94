/-
  tally, and its reference: the sum of bytes is crcOf.
-/
import Derived.Test.YtfcialmdediojaaLib
import Derived.Test.YtfcialmdediojaaCrc
import Derived.Laws.BitsAllLaws
import Derived.Laws.ResultCell
namespace Go.Proofs.Ytfcialmdediojaa
set_option linter.unusedVariables false
set_option linter.unusedSimpArgs false
open Go.RowKit
def u32V (n : Nat) : Value := .int .u32 (n : Int)
def tabTo (i : Nat) : List Value := (List.range 16).map fun j => u32V (if j < i then crcHalf j else 0)
def tabV : List Value := (List.range 16).map fun j => u32V (crcHalf j)
theorem tabTo_len (i : Nat) : (tabTo i).length = 16 := by simp [tabTo]
theorem tabTo_set {i : Nat} (h : i < 16) : (tabTo i).toArray.setIfInBounds i (u32V (crcHalf i)) = (tabTo (i + 1)).toArray := by
  apply Array.ext_getElem?
  intro j
  rw [Array.getElem?_setIfInBounds]
  simp only [List.getElem?_toArray, List.size_toArray, tabTo_len]
  by_cases e : i = j
  · subst e; rw [if_pos rfl, if_pos h]; simp [tabTo, h]
  · rw [if_neg e]
    by_cases hj : j < 16
    · simp only [tabTo, List.getElem?_map, List.getElem?_range hj, Option.map_some]
      by_cases h2 : j < i
      · rw [if_pos h2, if_pos (by omega)]
      · rw [if_neg h2, if_neg (by omega)]
    · rw [List.getElem?_eq_none (by rw [tabTo_len]; omega), List.getElem?_eq_none (by rw [tabTo_len]; omega)]
theorem tabTo_at {i : Nat} (h : i < 16) : (tabTo i).toArray[i]? = some (u32V 0) := by simp [tabTo, h]
theorem tabTo_full : tabTo 16 = tabV := by
  unfold tabTo tabV
  refine List.map_congr_left fun j hj => ?_
  rw [if_pos (List.mem_range.1 hj)]
theorem crcBit_bits (r : Nat) (h : r < 4294967296) : bits .xor .u32 ((r : Int) / 2) (bits .and .u32 3988292384 (-bits .and .u32 (r : Int) 1 % 4294967296)) = (crcBit r : Int) := by
  have e1 : bits .and .u32 (r : Int) 1 = ((r % 2 : Nat) : Int) := by
    have := u32_and_nat r 1 h (by omega)
    rw [Nat.and_one_is_mod] at this; exact this
  have e2 : ((r : Int) / 2) = ((r / 2 : Nat) : Int) := by omega
  rw [e1, e2]
  unfold crcBit
  rcases Nat.mod_two_eq_zero_or_one r with h0 | h0
  · rw [h0, if_neg (by omega)]
    have e3 : bits .and .u32 3988292384 (-((0 : Nat) : Int) % 4294967296) = ((0 : Nat) : Int) := by
      have := u32_and_nat 3988292384 0 (by omega) (by omega)
      simpa using this
    rw [e3, u32_xor_nat _ _ (by omega) (by omega), Nat.xor_zero]
  · rw [h0, if_pos rfl]
    have e3 : bits .and .u32 3988292384 (-((1 : Nat) : Int) % 4294967296) = ((3988292384 : Nat) : Int) := by
      have := u32_and_nat 3988292384 4294967295 (by omega) (by omega)
      rw [show (3988292384 &&& 4294967295 : Nat) = 3988292384 from by decide] at this
      simpa using this
    rw [e3, u32_xor_nat _ _ (by omega) (by omega)]
theorem crcBits_snoc (k n : Nat) : crcBits (k + 1) n = crcBit (crcBits k n) := by rw [crcBits_add k 1]; rfl
def MadeRel (w : World) (x : Value) (wr : World) : Prop := ∃ i : Nat, i ≤ 16 ∧ x = .int .i64 (i : Int) ∧ Below w.heap.size w wr ∧ Blk wr w.heap.size 103 (tabTo i).toArray
def BitRel (n : Nat) (x y : Value) : Prop := ∃ k : Nat, k ≤ 4 ∧ x = .int .i64 (k : Int) ∧ y = u32V (crcBits k n)
set_option maxRecDepth 100000 in
set_option maxHeartbeats 800000 in
theorem tally_made (w : World) : Calls Try.prog 66 #[] w fun e w' => e = .returned (.agg tabV.toArray) ∧ Below w.heap.size w w' := by
  go_enter Try.func66, Try.ntmps66
  go_wp2
  go_loopw [3, 1, 2] (fun x _ _ wr => MadeRel w x wr) (fun x _ _ _ => 16 - (intOf x).toNat)
  case atStart => exact ⟨0, by omega, rfl, (Below.refl _ _).alloc (Nat.le_refl _) _, by have := Blk.new w 103 (tabTo 0).toArray; exact this⟩
  case round =>
    obtain ⟨i, hi, rfl, hb, hbl⟩ := hrel
    have HB := Lib.hid hb
    have HL := Lib.hid hbl
    clear hb hbl
    by_cases hlt : i < 16
    · have hdi : decide ((i : Int) < 16) = true := by simp; omega
      go_wp2
      go_loop [8, 2] (fun x y => BitRel i x y) (fun x _ => 4 - (intOf x).toNat)
      case atStart => exact ⟨0, by omega, rfl, rfl⟩
      case round =>
        obtain ⟨k, hk, rfl, rfl⟩ := hrel
        have hr : crcBits k i < 4294967296 := crcBits_lt k (by omega)
        by_cases hk4 : k < 4
        · have hdk : decide ((k : Int) < 4) = true := by simp; omega
          unfold u32V
          generalize hrr : crcBits k i = r at *
          have HR := Lib.hid hrr
          clear hrr
          go_wp2
          go_round
          case rel => exact ⟨k + 1, by omega, by go_num, by rw [crcBit_bits r hr, crcBits_snoc, HR.out]; rfl⟩
          case measure => simp [intOf]; omega
        · have hdk : decide ((k : Int) < 4) = false := by simp; omega
          obtain rfl : k = 4 := by omega
          have c0 : wr.cell? ⟨w.heap.size, i, none⟩ = some (u32V 0) := by rw [HL.out.cell]; exact tabTo_at hlt
          have z0 := HL.out.frozen i
          unfold u32V at c0
          unfold u32V
          generalize hcc : crcBits 4 i = r at *
          have HR := Lib.hid hcc
          clear hcc
          go_wp2
          go_roundw
          case rel => exact ⟨i + 1, by omega, by go_num, HB.out.setCell (p := ⟨w.heap.size, i, none⟩) (Nat.le_refl _) _, by have := HL.out.set_ i (u32V r); rw [← HR.out, show crcBits 4 i = crcHalf i from rfl, tabTo_set hlt] at this; rw [← HR.out]; exact this⟩
          case measure => simp [intOf]; omega
    · have hdi : decide ((i : Int) < 16) = false := by simp; omega
      obtain rfl : i = 16 := by omega
      have hr : wr.rangeAt w.heap.size 0 tabV := by have := HL.out; rw [tabTo_full] at this; exact this.rangeAt (fun j hj => by rw [Nat.zero_add]; simp)
      have ht : wr.there w.heap.size 0 tabV.toArray.size := HL.out.there (by simp [tabTo_len, tabV])
      have HR := Lib.hid hr
      have HT := Lib.hid ht
      clear hr ht
      go_wp2_with (refine wpList_load_mid rfl 103 _ rfl w.heap.size 0 rfl tabV _ HR.out Try.underlying103 rfl (by kernel_rfl) ?_)
      have hst : Sem.run Try.prog (storeCells ⟨w.heap.size, 0, none⟩ tabV) wr = .ok () (wr.setCells w.heap.size 0 tabV) := by
        have := run_storeCells_cells (P := Try.prog) w.heap.size 0 tabV 0 wr (fun j hj => by have := (HT.out j (by simpa using hj)).1; simpa using this) (fun j hj => by have := (HT.out j (by simpa using hj)).2; simpa using this)
          (fun v hv => by simp only [tabV, List.mem_map] at hv; obtain ⟨j, _, rfl⟩ := hv; rfl)
        simpa using this
      rw [hst]
      clear hst
      have HS : Hid ((wr.setCells w.heap.size 0 tabV).rangeAt w.heap.size 0 tabV) := Lib.hid (World.rangeAt_setCells_same wr w.heap.size 0 tabV HT.out)
      have HB2 : Hid (Below w.heap.size w (wr.setCells w.heap.size 0 tabV)) := Lib.hid (Below.setCells (Nat.le_refl _) tabV 0 HB.out)
      generalize wr.setCells w.heap.size 0 tabV = w2 at *
      go_wp2
      refine bodyPost_ret (v := .agg tabV.toArray) ?_ rfl ⟨rfl, HB2.out⟩
      have hl := run_loadVar_mid (P := Try.prog) w2 w.heap.size 0 103 tabV _ HS.out Try.underlying103 rfl (by kernel_rfl)
      simp only [results]
      rw [show (Try.f66).results = #[.cell 0 103] from rfl]
      simp [Sem.run_bind, Result.andThen, asAddr, hl]
/-- the sum goes on from a row -/
def crcOn (r : Nat) (l : List UInt8) : Nat := 4294967295 - crcL (4294967295 - r) l
theorem crcOn_zero (l : List UInt8) : crcOn 0 l = crcOf l := rfl
theorem crcOn_lt (r : Nat) (l : List UInt8) : crcOn r l < 4294967296 := by unfold crcOn; omega
theorem crcOf_lt (l : List UInt8) : crcOf l < 4294967296 := by unfold crcOf; omega
theorem crcL_snoc (r : Nat) (l : List UInt8) (c : UInt8) : crcL r (l ++ [c]) = crcByte (crcL r l) c := by simp [crcL]
theorem xor_full {r : Nat} (h : r < 4294967296) : 4294967295 ^^^ r = 4294967295 - r := by
  apply Nat.eq_of_testBit_eq
  intro i
  rw [Nat.testBit_xor, show (4294967295 - r : Nat) = 2 ^ 32 - (r + 1) from by omega, Nat.testBit_two_pow_sub_succ (by omega), show (4294967295 : Nat) = 2 ^ 32 - 1 from rfl, Nat.testBit_two_pow_sub_one]
  by_cases hi : i < 32
  · simp [hi]
  · have : r.testBit i = false := Nat.testBit_lt_two_pow (Nat.lt_of_lt_of_le h (by have := Nat.pow_le_pow_right (show 0 < 2 by omega) (show 32 ≤ i by omega); omega))
    simp [hi, this]
theorem bits_full {r : Nat} (h : r < 4294967296) : bits .xor .u32 IntKind.u32.max (r : Int) = ((4294967295 - r : Nat) : Int) := by
  have := u32_xor_nat 4294967295 r (by omega) h
  rw [xor_full h] at this
  exact this
theorem half_lt {j : Nat} (h : j < 16) : crcHalf j < 4294967296 := crcBits_lt 4 (by omega)
theorem xor_lt {a b : Nat} (h : a < 4294967296) (k : b < 4294967296) : a ^^^ b < 4294967296 := Nat.xor_lt_two_pow (n := 32) h k
theorem nibble (y : Nat) (h : y < 4294967296) : bits .xor .u32 ((y : Int) / 16) ((crcHalf (y % 16) : Nat) : Int) = ((y / 16 ^^^ crcHalf (y % 16) : Nat) : Int) := by
  rw [show ((y : Int) / 16) = ((y / 16 : Nat) : Int) from by omega]
  exact u32_xor_nat _ _ (by omega) (half_lt (by omega))
theorem tmod16 (y : Nat) : (y : Int).tmod 16 = ((y % 16 : Nat) : Int) := by rw [Int.tmod_eq_emod_of_nonneg (by omega)]; omega
def z32 : Value := .int .u32 0
def zero16 : Array Value := #[z32, z32, z32, z32, z32, z32, z32, z32, z32, z32, z32, z32, z32, z32, z32, z32]
def TabAt (w : World) (g : Nat) : Prop := g < w.heap.size ∧ ∀ j, j < 16 → w.cell? ⟨g, j, none⟩ = some (u32V (crcHalf j))
def OnRel (w : World) (A : Option Addr) (l : List UInt8) (g r : Nat) (x y : Value) (wr : World) : Prop :=
  ∃ k : Nat, k ≤ l.length ∧ x = .int .i64 (k : Int) ∧ y = u32V (crcL (4294967295 - r) (l.take k)) ∧ Below w.heap.size w wr ∧ TabAt wr g
set_option maxRecDepth 100000 in
set_option maxHeartbeats 1600000 in
theorem tally_on {w : World} {A : Option Addr} {l : List UInt8} (h : Sl w A (bytesV l)) (c r : Nat) (hr : r < 4294967296) (hl : l.length ≤ 140737488355328) :
    Calls Try.prog 51 #[u32V r, .slice A l.length c] w fun e w' => e = .returned (u32V (crcOn r l)) ∧ Below w.heap.size w w' := by
  have H := Lib.hid h
  clear h
  unfold u32V
  go_enter Try.func51, Try.ntmps51
  go_wp2_with fail
  refine (tally_made w).mono ?_
  rintro e w1 ⟨rfl, hb⟩
  have HB := Lib.hid hb
  clear hb
  go_wp2
  rw [bits_full hr]
  have HT0 : Hid (Blk (w1.alloc (.cells zero16 103)) w1.heap.size 103 zero16) := Lib.hid (Blk.new _ _ _)
  have HB1 : Hid (Below w.heap.size w (w1.alloc (.cells zero16 103))) := Lib.hid (HB.out.alloc HB.out.size _)
  have hsz : zero16.size = 16 := rfl
  show Oper.upon _ _ _ _ _ ((Sem.run Try.prog (storeCells { block := w1.heap.size, off := 0 } tabV) (w1.alloc (.cells zero16 103))).andThen fun a w' => Result.ok Next.skip w')
  generalize hw2 : w1.alloc (.cells zero16 103) = w2 at *
  have hst : Sem.run Try.prog (storeCells ⟨w1.heap.size, 0, none⟩ tabV) w2 = .ok () (w2.setCells w1.heap.size 0 tabV) := by
    have hth := HT0.out.there (o := 0) (n := 16) (by rw [hsz]; omega)
    have := run_storeCells_cells (P := Try.prog) w1.heap.size 0 tabV 0 w2 (fun j hj => by have := (hth j (by simpa [tabV] using hj)).1; simpa using this) (fun j hj => by have := (hth j (by simpa [tabV] using hj)).2; simpa using this)
      (fun v hv => by simp only [tabV, List.mem_map] at hv; obtain ⟨j, _, rfl⟩ := hv; rfl)
    simpa using this
  rw [hst]
  clear hst hw2
  have HT : Hid (TabAt (w2.setCells w1.heap.size 0 tabV) w1.heap.size) := Lib.hid ⟨by rw [size_setCells]; exact HT0.out.lt, fun j hj => by
    have hb := Blk.setCells tabV 0 HT0.out
    rw [hb.cell, putL_get, if_pos ⟨Nat.zero_le _, by simp [tabV]; omega, by rw [hsz]; omega⟩]
    simp [tabV, hj]⟩
  have HB2 : Hid (Below w.heap.size w (w2.setCells w1.heap.size 0 tabV)) := Lib.hid (Below.setCells HB.out.size tabV 0 HB1.out)
  generalize w2.setCells w1.heap.size 0 tabV = w3 at *
  clear HB1 HT0 hsz
  generalize w1.heap.size = g at *
  go_wp2
  go_loopw [14, 6] (fun x y wr => OnRel w A l g r x y wr) (fun x _ _ => l.length - (intOf x).toNat)
  case atStart => exact ⟨0, Nat.zero_le _, rfl, by simp [crcL, u32V], HB2.out, HT.out⟩
  case round =>
    obtain ⟨k, hk, rfl, rfl, hb, ht⟩ := hrel
    have HB := Lib.hid hb
    have HT := Lib.hid ht
    clear hb ht
    unfold u32V
    by_cases hlt : k < l.length
    · obtain ⟨b1, o1, rfl, hb1, hc1⟩ := H.out.at_ (k := k) (by rw [bytesV_len]; exact hlt)
      have c1 : wr.cell? ⟨b1, o1 + k, none⟩ = some (.int .u8 (l[k].toNat : Int)) := by have := HB.out.cell (p := ⟨b1, o1 + k, none⟩) hb1; rw [this]; simpa [bytesV, byteV] using hc1
      have i0 : (0 : Int) ≤ (k : Int) := by omega
      have i1 : (k : Int) < (l.length : Int) := by omega
      have HK := Lib.hid (List.take_succ_eq_append_getElem hlt)
      clear hc1
      have hs : crcL (4294967295 - r) (l.take k) < 4294967296 := crcL_lt _ (by omega)
      generalize hss : crcL (4294967295 - r) (l.take k) = s at *
      have HS := Lib.hid hss
      clear hss
      have hx : l[k].toNat < 256 := UInt8.toNat_lt _
      have hst : crcByte s l[k] = _ := crcByte_two s l[k]
      simp only [] at hst
      have hxx := u32_xor_nat s l[k].toNat hs (by omega)
      have hy := xor_lt hs (show l[k].toNat < 4294967296 by omega)
      generalize s ^^^ l[k].toNat = y at *
      generalize l[k] = x at *
      have m1 := tmod16 y
      have hj1 : y % 16 < 16 := by omega
      have t1 := HT.out.2 _ hj1
      have hz1 := nibble y hy
      have hz := xor_lt (show y / 16 < 4294967296 by omega) (half_lt hj1)
      generalize y / 16 ^^^ crcHalf (y % 16) = z at *
      generalize crcHalf (y % 16) = q1 at *
      generalize y % 16 = j1 at *
      have m2 := tmod16 z
      have hj2 : z % 16 < 16 := by omega
      have t2 := HT.out.2 _ hj2
      have hz2 := nibble z hz
      generalize z / 16 ^^^ crcHalf (z % 16) = s2 at *
      generalize crcHalf (z % 16) = q2 at *
      generalize z % 16 = j2 at *
      unfold u32V at t1 t2
      have HC := Lib.hid hst
      clear hst
      have a1 : (0 : Int) ≤ (j1 : Int) := by omega
      have a2 : (j1 : Int) < 16 := by omega
      have a3 : (0 : Int) ≤ (j2 : Int) := by omega
      have a4 : (j2 : Int) < 16 := by omega
      go_wp2_with fail
      exact ⟨⟨k + 1, by omega, by go_num, by rw [HK.out, crcL_snoc, HS.out, HC.out]; rfl, HB.out, HT.out⟩, by simp [intOf]; omega⟩
    · obtain rfl : k = l.length := by omega
      have hs : crcL (4294967295 - r) (l.take l.length) < 4294967296 := crcL_lt _ (by omega)
      rw [List.take_length] at hs ⊢
      have HE : Hid (4294967295 - crcL (4294967295 - r) l = crcOn r l) := Lib.hid rfl
      generalize crcL (4294967295 - r) l = s at *
      have hf := bits_full hs
      go_wp2
      go_ret
      exact ⟨by rw [← HE.out, ← hf]; rfl, HB.out⟩
set_option maxRecDepth 100000 in
theorem tally_of {w : World} {A : Option Addr} {l : List UInt8} (h : Sl w A (bytesV l)) (c : Nat) (hl : l.length ≤ 140737488355328) :
    Calls Try.prog 29 #[.slice A l.length c] w fun e w' => e = .returned (u32V (crcOf l)) ∧ Below w.heap.size w w' := by
  have H := Lib.hid h
  clear h
  go_enter Try.func29, Try.ntmps29
  go_wp2_with fail
  refine (tally_on H.out c 0 (by omega) hl).mono ?_
  rintro e w1 ⟨rfl, hb⟩
  go_wp2
  go_ret
  exact ⟨rfl, hb⟩
/-- four bytes, the lowest first -/
def leRow (n : Nat) : List UInt8 := (List.range 4).map fun j => UInt8.ofNat (n / 256 ^ j)
def leTo (n i : Nat) : List Value := (List.range 4).map fun j => if j < i then byteV (UInt8.ofNat (n / 256 ^ j)) else .int .u8 0
def RowRel (w : World) (n : Nat) (x : Value) (wr : World) : Prop := ∃ i : Nat, i ≤ 4 ∧ x = .int .i64 (i : Int) ∧ Below w.heap.size w wr ∧ Blk wr w.heap.size 5 (leTo n i).toArray
set_option maxRecDepth 100000 in
set_option maxHeartbeats 800000 in
theorem tally_row (w : World) (n : Nat) (hn : n < 4294967296) : Calls Try.prog 28 #[u32V n] w (NewRow w 5 (bytesV (leRow n))) := by
  unfold u32V
  have hmk : ∀ w, (Instr.makeSlice 27 (.int .i64 4) (.int .i64 4)).run Try.prog w = .ok (.slice (some ⟨w.heap.size, 0, none⟩) 4 4) (w.alloc (.cells #[.int .u8 0, .int .u8 0, .int .u8 0, .int .u8 0] 5)) := fun _ => by kernel_rfl
  go_enter Try.func28, Try.ntmps28
  go_wp2
  go_loopw [8, 4] (fun x _ wr => RowRel w n x wr) (fun x _ _ => 4 - (intOf x).toNat)
  case atStart => exact ⟨0, by omega, rfl, (Below.refl _ _).alloc (Nat.le_refl _) _, Blk.new w 5 _⟩
  case round =>
    obtain ⟨k, hk, rfl, hb, hbl⟩ := hrel
    have HB := Lib.hid hb
    have HL := Lib.hid hbl
    clear hb hbl
    by_cases hlt : k < 4
    · have c0 : wr.cell? ⟨w.heap.size, k, none⟩ = some (.int .u8 0) := by rw [HL.out.cell]; simp [leTo, hlt]
      have z0 := HL.out.frozen k
      have HN : Hid (UInt8.ofNat (n / 256 ^ k) = UInt8.ofNat (n / 256 ^ k)) := Lib.hid rfl
      have hv : ((n / 256 ^ k : Nat) : Int) % 256 = ((UInt8.ofNat (n / 256 ^ k)).toNat : Int) := by simp
      generalize hcc : UInt8.ofNat (n / 256 ^ k) = cc at *
      have HC := Lib.hid hcc
      clear hcc
      have HS : Hid ((leTo n k).toArray.setIfInBounds k (byteV cc) = (leTo n (k + 1)).toArray) := by
        rw [← HC.out]; apply Array.ext_getElem?
        intro j
        rw [Array.getElem?_setIfInBounds]
        by_cases e : k = j
        · subst e; simp [leTo, hlt]
        · rw [if_neg e]
          by_cases hj : j < 4
          · have h1 : (leTo n k).toArray[j]? = some (if j < k then byteV (UInt8.ofNat (n / 256 ^ j)) else .int .u8 0) := by simp [leTo, hj]
            have h2 : (leTo n (k + 1)).toArray[j]? = some (if j < k + 1 then byteV (UInt8.ofNat (n / 256 ^ j)) else .int .u8 0) := by simp [leTo, hj]
            rw [h1, h2]
            by_cases h3 : j < k
            · rw [if_pos h3, if_pos (by omega)]
            · rw [if_neg h3, if_neg (by omega)]
          · have h1 : (leTo n k).toArray[j]? = none := by simp [leTo, hj]
            have h2 : (leTo n (k + 1)).toArray[j]? = none := by simp [leTo, hj]
            rw [h1, h2]
      have i0 : (0 : Int) ≤ (k : Int) := by omega
      have i1 : (k : Int) < 4 := by omega
      have HR : Hid (RowRel w n (.int .i64 ((k : Int) + 1)) (wr.setCell ⟨w.heap.size, k, none⟩ (.int .u8 (cc.toNat : Int)))) := Lib.hid ⟨k + 1, by omega, by go_num, HB.out.setCell (p := ⟨w.heap.size, k, none⟩) (Nat.le_refl _) _, by have := HL.out.set_ k (byteV cc); rw [HS.out] at this; exact this⟩
      clear HS HC
      have hkk : k = 0 ∨ k = 1 ∨ k = 2 ∨ k = 3 := by omega
      rcases hkk with rfl | rfl | rfl | rfl
      · have hv2 : (n : Int) % 256 = (cc.toNat : Int) := by rw [← hv]; simp
        go_wp2
        go_roundw
        case rel => exact HR.out
        case measure => simp [intOf]
      · have hv2 : ((n : Int) / 256) % 256 = (cc.toNat : Int) := by rw [← hv]; omega
        go_wp2
        go_roundw
        case rel => exact HR.out
        case measure => simp [intOf]
      · have hv2 : ((n : Int) / 65536) % 256 = (cc.toNat : Int) := by rw [← hv]; omega
        go_wp2
        go_roundw
        case rel => exact HR.out
        case measure => simp [intOf]
      · have hv2 : ((n : Int) / 16777216) = (cc.toNat : Int) := by omega
        go_wp2
        go_roundw
        case rel => exact HR.out
        case measure => simp [intOf]
    · obtain rfl : k = 4 := by omega
      go_wp2
      go_ret
      exact ⟨_, rfl, ⟨rfl, .inr ⟨w.heap.size, 4, _, rfl, Nat.le_refl _, HL.out, Nat.le_refl _, by unfold maxLen; omega, rfl, rfl⟩⟩, HB.out⟩
end Go.Proofs.Ytfcialmdediojaa
