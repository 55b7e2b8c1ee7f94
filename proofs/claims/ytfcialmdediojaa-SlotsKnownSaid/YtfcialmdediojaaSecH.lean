/-
  The program's device: New; and those of no device.
-/
import Derived.Test.YtfcialmdediojaaSecG
import Derived.Laws.MakeOwn
namespace Go.Proofs.Ytfcialmdediojaa
set_option linter.unusedVariables false
set_option linter.unusedSimpArgs false
open Go.RowKit
set_option maxRecDepth 100000 in
theorem sector_new_bad (w : World) (n : Int) (hn : n < 1 ∨ 8192 < n) :
    Calls Try.prog 6 #[.int .i64 n] w fun e w' => e = .returned (.tuple #[.pointer none, .int .i64 2]) ∧ Drawn w w' := by
  rcases hn with h | h
  all_goals
    go_enter Try.func6, Try.ntmps6
    go_wp2
    go_ret2
    exact ⟨rfl, Drawn.refl w⟩
theorem infoBlock3 : (Try.prog.info? 67).map (fun i => (i.zero, i.size, i.bytes)) = some (some (.agg (bytesV (zeros 128)).toArray), 128, 128) := by kernel_rfl
theorem zeros_get {n j : Nat} (h : j < n) : (bytesV (zeros n))[j]? = some (.int .u8 0) := by
  unfold bytesV zeros
  rw [List.getElem?_map, List.getElem?_replicate, if_pos h]; rfl
theorem zero_mod (x : Nat) : ((Value.agg (bytesV (zeros 128)).toArray).cells)[x % ((Value.agg (bytesV (zeros 128)).toArray).cells).size]! = .int .u8 0 := by
  have hsz : ((Value.agg (bytesV (zeros 128)).toArray).cells).size = 128 := by show (bytesV (zeros 128)).toArray.size = 128; rw [List.size_toArray, bytesV_len]; unfold zeros; rw [List.length_replicate]
  rw [hsz]
  have hlt : x % 128 < 128 := Nat.mod_lt _ (by omega)
  have h := zeros_get hlt
  have h2 : (Value.agg (bytesV (zeros 128)).toArray).cells[x % 128]? = some (.int .u8 0) := by show (bytesV (zeros 128)).toArray[x % 128]? = _; rw [List.getElem?_toArray]; exact h
  rw [getElem!_pos _ _ (by rw [hsz]; exact hlt)]
  rw [Array.getElem?_eq_getElem (by rw [hsz]; exact hlt)] at h2
  injection h2
theorem made_secV (n : Nat) : madeCells (Value.agg (bytesV (zeros 128)).toArray).cells (n * 128) = (secV (List.replicate n Sec.zero)).toArray := by
  have hall : All128 (List.replicate n Sec.zero) := fun s hs => by rw [(List.mem_replicate.1 hs).2]; simp [Sec.zero, zeros]
  have hlen := secV_len hall
  rw [List.length_replicate] at hlen
  apply Array.ext_getElem?
  intro j
  by_cases hj : j < n * 128
  · have h1 : (madeCells (Value.agg (bytesV (zeros 128)).toArray).cells (n * 128))[j]? = some (.int .u8 0) := by
      unfold madeCells
      rw [Array.getElem?_map, Array.getElem?_range, if_pos hj]
      simp only [Option.map_some]
      rw [zero_mod]
    rw [h1, List.getElem?_toArray, secV_div hall, List.getElem?_replicate, if_pos (by omega)]
    exact (zeros_get (Nat.mod_lt _ (by omega))).symm
  · rw [Array.getElem?_eq_none (by rw [size_madeCells]; omega), List.getElem?_toArray, List.getElem?_eq_none (by omega)]
set_option maxRecDepth 100000 in
theorem sector_new {w : World} {col : Col} (hp : Plain w col) (n : Nat) (h1 : 1 ≤ n) (h2 : n ≤ 8192) (c : Nat) :
    Calls Try.prog 6 #[.int .i64 (n : Int)] w fun e w' => ∃ b, e = .returned (.tuple #[.pointer (some ⟨b, 0, none⟩), .int .i64 0]) ∧ w.heap.size ≤ b ∧
      ∃ col', Ext (fun _ => False) w col w' col' ∧ DevP w' col' c b (Dev.new n) := by
  have t1 : decide ((n : Int) < 1) = false := by simp; omega
  have t2 : decide ((8192 : Int) < (n : Int)) = false := by simp; omega
  obtain ⟨i0, hi, hz0, hz1, hz2⟩ := info_parts infoBlock3
  have hmk : (Instr.makeSlice 37 (.int .i64 (n : Int)) (.int .i64 (n : Int))).run Try.prog w = .ok (.slice (some ⟨w.heap.size, 0, none⟩) n n) (w.alloc (.cells (secV (List.replicate n Sec.zero)).toArray 67)) := by
    have := run_make (P := Try.prog) w 37 67 i0 _ Try.underlying37 hi hz0 .i64 .i64 n n (by omega) (by omega) (by rw [hz2]; omega) (by omega)
    rw [hz1] at this
    simp only [Int.toNat_natCast] at this
    rw [made_secV] at this; exact this
  have hmm := @run_makeMap Try.prog
  generalize hSS : (secV (List.replicate n Sec.zero)).toArray = SS at *
  have HSS := Lib.hid hSS
  clear hSS
  go_enter Try.func6, Try.ntmps6
  go_wp2
  go_ret2
  have b0 := ((Blk.new w 67 SS).alloc (.map #[] 0)).alloc (.cells #[.slice (some ⟨w.heap.size, 0, none⟩) n n, .map (some (w.heap.size + 1)), .int .i64 (-1), .slice none 0 0, .int .i64 (-1), .int .i64 0, .bool false] 41)
  have b2 := Blk.new ((w.alloc (.cells SS 67)).alloc (.map #[] 0)) 41 #[.slice (some ⟨w.heap.size, 0, none⟩) n n, .map (some (w.heap.size + 1)), .int .i64 (-1), .slice none 0 0, .int .i64 (-1), .int .i64 0, .bool false]
  have m1 : (((w.alloc (.cells SS 67)).alloc (.map #[] 0)).alloc (.cells #[.slice (some ⟨w.heap.size, 0, none⟩) n n, .map (some (w.heap.size + 1)), .int .i64 (-1), .slice none 0 0, .int .i64 (-1), .int .i64 0, .bool false] 41)).heap[w.heap.size + 1]? = some (.map #[] 0) := by
    rw [Below.heap_alloc _ _ _ (by simp)]
    have := heap_alloc_new (w.alloc (.cells SS 67)) (.map #[] 0)
    simpa using this
  simp only [World.size_alloc] at b2
  have he : Ext (fun _ => False) w col (((w.alloc (.cells SS 67)).alloc (.map #[] 0)).alloc (.cells #[.slice (some ⟨w.heap.size, 0, none⟩) n n, .map (some (w.heap.size + 1)), .int .i64 (-1), .slice none 0 0, .int .i64 (-1), .int .i64 0, .bool false] 41)) col := (((Ext.refl hp).alloc _).alloc _).alloc _
  have hsz : (((w.alloc (.cells SS 67)).alloc (.map #[] 0)).alloc (.cells #[.slice (some ⟨w.heap.size, 0, none⟩) n n, .map (some (w.heap.size + 1)), .int .i64 (-1), .slice none 0 0, .int .i64 (-1), .int .i64 0, .bool false] 41)).heap.size = w.heap.size + 3 := by simp
  refine ⟨w.heap.size + 1 + 1, rfl, by omega, Col.set (Col.set (Col.set col w.heap.size c) (w.heap.size + 1) c) (w.heap.size + 1 + 1) c, ((he.paint c (Nat.le_refl _) (by rw [hsz]; omega)).paint c (by omega) (by rw [hsz]; omega)).paint c (by omega) (by rw [hsz]; omega), w.heap.size, w.heap.size + 1, none, 0, .map [], ?_, ?_⟩
  · refine ⟨?_, ?_, ?_, MapIs.none fun s hs => ?_, Sl.nil _ _, Nat.le_refl _, (fun ad h => by cases h), Dev.OK.new h1 h2⟩
    · simpa [Dev.new] using b2
    · rw [← HSS.out] at b0 ⊢; exact b0
    · exact ⟨#[], 0, m1, ⟨by simp, MapKept.stamped_empty 0, by simp⟩, Nat.le_refl _, rfl⟩
    · rw [(List.mem_replicate.1 hs).2]; rfl
  · refine ⟨Col.set_same .., ?_, ?_, fun h => absurd h (by simp [Dev.new])⟩
    · rw [Col.set_other _ (by omega), Col.set_other _ (by omega)]; exact Col.set_same ..
    · rw [Col.set_other _ (by omega)]; exact Col.set_same ..
set_option maxRecDepth 100000 in
theorem sector_read_nil (w : World) (i : Int) : Calls Try.prog 10 #[.pointer none, .int .i64 i] w fun e w' => e = .returned (.tuple #[.slice none 0 0, .int .i64 1]) ∧ w = w' := by
  go_enter Try.func10, Try.ntmps10
  go_wp2_with fail
  refine (sector_at_nil w i).mono ?_
  rintro e w1 ⟨rfl, rfl⟩
  go_wp2_with fail
  go_ret2
  exact ⟨rfl, rfl⟩
set_option maxRecDepth 100000 in
theorem sector_read_zero (w : World) (b : Nat) (i : Int) (h1 : w.cell? ⟨b, 1, none⟩ = some (.map none)) :
    Calls Try.prog 10 #[.pointer (some ⟨b, 0, none⟩), .int .i64 i] w fun e w' => e = .returned (.tuple #[.slice none 0 0, .int .i64 1]) ∧ w = w' := by
  have H := Lib.hid h1
  clear h1
  go_enter Try.func10, Try.ntmps10
  go_wp2_with fail
  refine (sector_at_zero w b i H.out).mono ?_
  rintro e w1 ⟨rfl, rfl⟩
  go_wp2_with fail
  go_ret2
  exact ⟨rfl, rfl⟩
end Go.Proofs.Ytfcialmdediojaa
