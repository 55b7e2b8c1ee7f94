/-
  The law: a row of deeds in memory.
-/
import Derived.Test.YtfcialmdediojaaLawD
namespace Go.Proofs.Ytfcialmdediojaa
set_option linter.unusedVariables false
set_option linter.unusedSimpArgs false
open Go.RowKit
theorem tower_below : ∀ (os : List Obj) (w : World), Below w.heap.size w (os.foldl World.alloc w)
  | [], w => Below.refl _ _
  | o :: r, w => by
    have h := (Below.refl w.heap.size w).alloc (Nat.le_refl _) o
    exact Below.trans' h (tower_below r (w.alloc o)) h.size
theorem tower_get : ∀ (os : List Obj) (w : World) (j : Nat) (o : Obj), os[j]? = some o → (os.foldl World.alloc w).heap[w.heap.size + j]? = some o
  | [], w, j, o, h => by simp at h
  | a :: r, w, 0, o, h => by
    have e : a = o := by simpa using h
    subst e
    exact ((tower_below r (w.alloc a)).block w.heap.size (by simp)).trans (heap_alloc_new w a)
  | a :: r, w, j + 1, o, h => by
    have := tower_get r (w.alloc a) j o (by simpa using h)
    rw [World.size_alloc] at this
    rw [show w.heap.size + (j + 1) = w.heap.size + 1 + j from by omega]
    exact this
theorem sl_blk {w : World} {g : Nat} {t : TypeId} {mk : Nat × Nat} {cs : List Value} (h : w.heap[g]? = some (.cells cs.toArray t mk)) : Sl w (some ⟨g, 0, none⟩) cs := fun _ =>
  ⟨g, 0, rfl, (Array.getElem?_eq_some_iff.1 h).1, fun j hj => by
    rw [cell_of_row _ g (0 + j) cs.toArray t mk h]; simp [List.getElem?_eq_getElem hj]⟩
theorem DeedC.V.of {w : World} (x : DeedC) (h1 : Sl w x.DA (bytesV x.data)) (h2 : Sl w x.KA (x.keep.map intV)) (hk : x.keep.length ≤ x.kc)
    (hK : -9223372036854775808 ≤ x.K ∧ x.K ≤ 9223372036854775807) (hN : -9223372036854775808 ≤ x.N ∧ x.N ≤ 9223372036854775807) (ks : ∀ y ∈ x.keep, -9223372036854775808 ≤ y ∧ y ≤ 9223372036854775807) (few : x.data.length ≤ 1000000 ∧ x.keep.length ≤ 1000000) : x.V w (fun _ => 0) :=
  ⟨⟨rfl, hk⟩, h1, fun _ _ _ => rfl, h2, fun _ _ _ => rfl, hK, hN, ks, few⟩
def deedL (h : Nat) (k : Int) (m : Nat) : List DeedC := [⟨0, 0, some ⟨h, 0, none⟩, [97], 1, none, [], 0⟩, ⟨4, k, none, [], 0, none, [], 0⟩, ⟨0, 0, some ⟨h + 1, 0, none⟩, zeros m, m, none, [], 0⟩, ⟨4, -1, none, [], 0, none, [], 0⟩, ⟨0, 0, some ⟨h + 1 + 1, 0, none⟩, [98], 1, none, [], 0⟩, ⟨3, k, none, [], 0, some ⟨h + 1 + 1 + 1, 0, none⟩, [k], 1⟩, ⟨0, 0, some ⟨h + 1 + 1 + 1 + 1, 0, none⟩, [99], 1, none, [], 0⟩, ⟨0, 0, some ⟨h + 1 + 1 + 1 + 1 + 1, 0, none⟩, [100], 1, none, [], 0⟩, ⟨2, 0, none, [], 0, some ⟨h + 1 + 1 + 1 + 1 + 1 + 1, 0, none⟩, [1], 1⟩, ⟨0, 0, some ⟨h + 1 + 1 + 1 + 1 + 1 + 1 + 1, 0, none⟩, [101], 1, none, [], 0⟩, ⟨5, k, some ⟨h + 1 + 1 + 1 + 1 + 1 + 1 + 1 + 1, 0, none⟩, [0, 0, 0, 0, 0, 0, 0, 9, 101], 9, none, [], 0⟩, ⟨1, 0, none, [], 0, none, [], 0⟩, ⟨0, 0, some ⟨h + 1 + 1 + 1 + 1 + 1 + 1 + 1 + 1 + 1, 0, none⟩, [102], 1, none, [], 0⟩]
def deedCells (h : Nat) (k : Int) (m : Nat) : Array Value := #[.int .i64 0, .int .i64 0, .slice (some ⟨h, 0, none⟩) 1 1, .slice none 0 0, .int .i64 4, .int .i64 k, .slice none 0 0, .slice none 0 0, .int .i64 0, .int .i64 0, .slice (some ⟨h + 1, 0, none⟩) m m, .slice none 0 0, .int .i64 4, .int .i64 (-1), .slice none 0 0, .slice none 0 0, .int .i64 0, .int .i64 0, .slice (some ⟨h + 1 + 1, 0, none⟩) 1 1, .slice none 0 0, .int .i64 3, .int .i64 k, .slice none 0 0, .slice (some ⟨h + 1 + 1 + 1, 0, none⟩) 1 1, .int .i64 0, .int .i64 0, .slice (some ⟨h + 1 + 1 + 1 + 1, 0, none⟩) 1 1, .slice none 0 0, .int .i64 0, .int .i64 0, .slice (some ⟨h + 1 + 1 + 1 + 1 + 1, 0, none⟩) 1 1, .slice none 0 0, .int .i64 2, .int .i64 0, .slice none 0 0, .slice (some ⟨h + 1 + 1 + 1 + 1 + 1 + 1, 0, none⟩) 1 1, .int .i64 0, .int .i64 0, .slice (some ⟨h + 1 + 1 + 1 + 1 + 1 + 1 + 1, 0, none⟩) 1 1, .slice none 0 0, .int .i64 5, .int .i64 k, .slice (some ⟨h + 1 + 1 + 1 + 1 + 1 + 1 + 1 + 1, 0, none⟩) 9 9, .slice none 0 0, .int .i64 1, .int .i64 0, .slice none 0 0, .slice none 0 0, .int .i64 0, .int .i64 0, .slice (some ⟨h + 1 + 1 + 1 + 1 + 1 + 1 + 1 + 1 + 1, 0, none⟩) 1 1, .slice none 0 0]
def deedObjs (h : Nat) (k : Int) (m : Nat) : List Obj := [.cells #[.int .u8 97] 5 (1, 2), .cells (bytesV (zeros m)).toArray 5 (0, 0), .cells #[.int .u8 98] 5 (1, 2), .cells #[.int .i64 k] 3 (0, 0), .cells #[.int .u8 99] 5 (1, 2), .cells #[.int .u8 100] 5 (1, 2), .cells #[.int .i64 1] 3 (0, 0), .cells #[.int .u8 101] 5 (1, 2), .cells #[.int .u8 0, .int .u8 0, .int .u8 0, .int .u8 0, .int .u8 0, .int .u8 0, .int .u8 0, .int .u8 9, .int .u8 101] 5 (0, 0), .cells #[.int .u8 102] 5 (1, 2), .cells (deedCells h k m) 43 (0, 0)]
set_option maxRecDepth 100000 in
theorem deeds_tower (w : World) (k : Int) (m : Nat) (hk : -1 ≤ k ∧ k ≤ 6) (hm : m ≤ 103) : DeedL ((deedObjs w.heap.size k m).foldl World.alloc w) (w.heap.size + 10) (deedL w.heap.size k m) := by
  have G := fun j o h => tower_get (deedObjs w.heap.size k m) w j o h
  have s0 : Sl ((deedObjs w.heap.size k m).foldl World.alloc w) (some ⟨w.heap.size, 0, none⟩) (bytesV [97]) := sl_blk (G 0 _ rfl)
  have s1 : Sl ((deedObjs w.heap.size k m).foldl World.alloc w) (some ⟨w.heap.size + 1, 0, none⟩) (bytesV (zeros m)) := sl_blk (G 1 _ rfl)
  have s2 : Sl ((deedObjs w.heap.size k m).foldl World.alloc w) (some ⟨w.heap.size + 1 + 1, 0, none⟩) (bytesV [98]) := sl_blk (G 2 _ rfl)
  have s3 : Sl ((deedObjs w.heap.size k m).foldl World.alloc w) (some ⟨w.heap.size + 1 + 1 + 1, 0, none⟩) (List.map intV [k]) := sl_blk (G 3 _ rfl)
  have s4 : Sl ((deedObjs w.heap.size k m).foldl World.alloc w) (some ⟨w.heap.size + 1 + 1 + 1 + 1, 0, none⟩) (bytesV [99]) := sl_blk (G 4 _ rfl)
  have s5 : Sl ((deedObjs w.heap.size k m).foldl World.alloc w) (some ⟨w.heap.size + 1 + 1 + 1 + 1 + 1, 0, none⟩) (bytesV [100]) := sl_blk (G 5 _ rfl)
  have s6 : Sl ((deedObjs w.heap.size k m).foldl World.alloc w) (some ⟨w.heap.size + 1 + 1 + 1 + 1 + 1 + 1, 0, none⟩) (List.map intV [1]) := sl_blk (G 6 _ rfl)
  have s7 : Sl ((deedObjs w.heap.size k m).foldl World.alloc w) (some ⟨w.heap.size + 1 + 1 + 1 + 1 + 1 + 1 + 1, 0, none⟩) (bytesV [101]) := sl_blk (G 7 _ rfl)
  have s8 : Sl ((deedObjs w.heap.size k m).foldl World.alloc w) (some ⟨w.heap.size + 1 + 1 + 1 + 1 + 1 + 1 + 1 + 1, 0, none⟩) (bytesV [0, 0, 0, 0, 0, 0, 0, 9, 101]) := sl_blk (G 8 _ rfl)
  have s9 : Sl ((deedObjs w.heap.size k m).foldl World.alloc w) (some ⟨w.heap.size + 1 + 1 + 1 + 1 + 1 + 1 + 1 + 1 + 1, 0, none⟩) (bytesV [102]) := sl_blk (G 9 _ rfl)
  have hb : Blk ((deedObjs w.heap.size k m).foldl World.alloc w) (w.heap.size + 10) 43 (deedCells w.heap.size k m) := G 10 _ rfl
  have hz : (zeros m).length = m := by simp [zeros]
  generalize (deedObjs w.heap.size k m).foldl World.alloc w = W at *
  generalize w.heap.size = h at *
  refine ⟨hb.lt, fun i hi => ?_, fun i hi => ?_⟩
  · have hi' : i = 0 ∨ i = 1 ∨ i = 2 ∨ i = 3 ∨ i = 4 ∨ i = 5 ∨ i = 6 ∨ i = 7 ∨ i = 8 ∨ i = 9 ∨ i = 10 ∨ i = 11 ∨ i = 12 := by simp [deedL] at hi; omega
    rcases hi' with rfl | rfl | rfl | rfl | rfl | rfl | rfl | rfl | rfl | rfl | rfl | rfl | rfl
    · exact ⟨(hb.cell _).trans rfl, (hb.cell _).trans rfl, (hb.cell _).trans rfl, (hb.cell _).trans rfl⟩
    · exact ⟨(hb.cell _).trans rfl, (hb.cell _).trans rfl, (hb.cell _).trans rfl, (hb.cell _).trans rfl⟩
    · exact ⟨(hb.cell _).trans rfl, (hb.cell _).trans rfl, by rw [hb.cell]; show some _ = some (Value.slice _ (zeros m).length _); rw [hz]; rfl, (hb.cell _).trans rfl⟩
    · exact ⟨(hb.cell _).trans rfl, (hb.cell _).trans rfl, (hb.cell _).trans rfl, (hb.cell _).trans rfl⟩
    · exact ⟨(hb.cell _).trans rfl, (hb.cell _).trans rfl, (hb.cell _).trans rfl, (hb.cell _).trans rfl⟩
    · exact ⟨(hb.cell _).trans rfl, (hb.cell _).trans rfl, (hb.cell _).trans rfl, (hb.cell _).trans rfl⟩
    · exact ⟨(hb.cell _).trans rfl, (hb.cell _).trans rfl, (hb.cell _).trans rfl, (hb.cell _).trans rfl⟩
    · exact ⟨(hb.cell _).trans rfl, (hb.cell _).trans rfl, (hb.cell _).trans rfl, (hb.cell _).trans rfl⟩
    · exact ⟨(hb.cell _).trans rfl, (hb.cell _).trans rfl, (hb.cell _).trans rfl, (hb.cell _).trans rfl⟩
    · exact ⟨(hb.cell _).trans rfl, (hb.cell _).trans rfl, (hb.cell _).trans rfl, (hb.cell _).trans rfl⟩
    · exact ⟨(hb.cell _).trans rfl, (hb.cell _).trans rfl, (hb.cell _).trans rfl, (hb.cell _).trans rfl⟩
    · exact ⟨(hb.cell _).trans rfl, (hb.cell _).trans rfl, (hb.cell _).trans rfl, (hb.cell _).trans rfl⟩
    · exact ⟨(hb.cell _).trans rfl, (hb.cell _).trans rfl, (hb.cell _).trans rfl, (hb.cell _).trans rfl⟩
  · have hi' : i = 0 ∨ i = 1 ∨ i = 2 ∨ i = 3 ∨ i = 4 ∨ i = 5 ∨ i = 6 ∨ i = 7 ∨ i = 8 ∨ i = 9 ∨ i = 10 ∨ i = 11 ∨ i = 12 := by simp [deedL] at hi; omega
    rcases hi' with rfl | rfl | rfl | rfl | rfl | rfl | rfl | rfl | rfl | rfl | rfl | rfl | rfl
    · exact DeedC.V.of _ s0 (Sl.nil _ _) (by simp [deedL]) (by simp [deedL]) (by simp [deedL] <;> omega) (fun y hy => absurd hy (by simp [deedL])) ⟨by simp [deedL, zeros] <;> omega, by simp [deedL]⟩
    · exact DeedC.V.of _ (Sl.nil _ _) (Sl.nil _ _) (by simp [deedL]) (by simp [deedL]) (by simp [deedL] <;> omega) (fun y hy => absurd hy (by simp [deedL])) ⟨by simp [deedL, zeros] <;> omega, by simp [deedL]⟩
    · exact DeedC.V.of _ s1 (Sl.nil _ _) (by simp [deedL]) (by simp [deedL]) (by simp [deedL] <;> omega) (fun y hy => absurd hy (by simp [deedL])) ⟨by simp [deedL, zeros] <;> omega, by simp [deedL]⟩
    · exact DeedC.V.of _ (Sl.nil _ _) (Sl.nil _ _) (by simp [deedL]) (by simp [deedL]) (by simp [deedL] <;> omega) (fun y hy => absurd hy (by simp [deedL])) ⟨by simp [deedL, zeros] <;> omega, by simp [deedL]⟩
    · exact DeedC.V.of _ s2 (Sl.nil _ _) (by simp [deedL]) (by simp [deedL]) (by simp [deedL] <;> omega) (fun y hy => absurd hy (by simp [deedL])) ⟨by simp [deedL, zeros] <;> omega, by simp [deedL]⟩
    · exact DeedC.V.of _ (Sl.nil _ _) s3 (by simp [deedL]) (by simp [deedL]) (by simp [deedL] <;> omega) (fun y hy => by simp [deedL] at hy; omega) ⟨by simp [deedL, zeros] <;> omega, by simp [deedL]⟩
    · exact DeedC.V.of _ s4 (Sl.nil _ _) (by simp [deedL]) (by simp [deedL]) (by simp [deedL] <;> omega) (fun y hy => absurd hy (by simp [deedL])) ⟨by simp [deedL, zeros] <;> omega, by simp [deedL]⟩
    · exact DeedC.V.of _ s5 (Sl.nil _ _) (by simp [deedL]) (by simp [deedL]) (by simp [deedL] <;> omega) (fun y hy => absurd hy (by simp [deedL])) ⟨by simp [deedL, zeros] <;> omega, by simp [deedL]⟩
    · exact DeedC.V.of _ (Sl.nil _ _) s6 (by simp [deedL]) (by simp [deedL]) (by simp [deedL] <;> omega) (fun y hy => by simp [deedL] at hy; omega) ⟨by simp [deedL, zeros] <;> omega, by simp [deedL]⟩
    · exact DeedC.V.of _ s7 (Sl.nil _ _) (by simp [deedL]) (by simp [deedL]) (by simp [deedL] <;> omega) (fun y hy => absurd hy (by simp [deedL])) ⟨by simp [deedL, zeros] <;> omega, by simp [deedL]⟩
    · exact DeedC.V.of _ s8 (Sl.nil _ _) (by simp [deedL]) (by simp [deedL]) (by simp [deedL] <;> omega) (fun y hy => absurd hy (by simp [deedL])) ⟨by simp [deedL, zeros] <;> omega, by simp [deedL]⟩
    · exact DeedC.V.of _ (Sl.nil _ _) (Sl.nil _ _) (by simp [deedL]) (by simp [deedL]) (by simp [deedL] <;> omega) (fun y hy => absurd hy (by simp [deedL])) ⟨by simp [deedL, zeros] <;> omega, by simp [deedL]⟩
    · exact DeedC.V.of _ s9 (Sl.nil _ _) (by simp [deedL]) (by simp [deedL]) (by simp [deedL] <;> omega) (fun y hy => absurd hy (by simp [deedL])) ⟨by simp [deedL, zeros] <;> omega, by simp [deedL]⟩
end Go.Proofs.Ytfcialmdediojaa
