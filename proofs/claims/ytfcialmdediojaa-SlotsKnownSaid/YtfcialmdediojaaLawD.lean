/-
  The law: slots on a device that is none.
-/
import Derived.Test.YtfcialmdediojaaLawC
namespace Go.Proofs.Ytfcialmdediojaa
set_option linter.unusedVariables false
set_option linter.unusedSimpArgs false
open Go.RowKit
def NoneRel (w : World) (y c : Value) (wr : World) : Prop := y = .int .i64 0 ∧ c = .bool false ∧ Below w.heap.size w wr
set_option maxRecDepth 100000 in
set_option maxHeartbeats 1600000 in
theorem slots_open_none {w : World} {P : Value} (h : ∀ w', Below w.heap.size w w' → Calls Try.prog 10 #[P, .int .i64 0] w' fun e w'' => e = .returned (.tuple #[.slice none 0 0, .int .i64 1]) ∧ w' = w'') :
    Calls Try.prog 8 #[P, .int .i64 0] w fun e w' => e = .returned (.tuple #[.pointer none, .slice none 0 0, .int .i64 1]) ∧ Below w.heap.size w w' := by
  have H := Lib.hid h
  clear h
  go_enter Try.func8, Try.ntmps8
  go_wp2
  go_loopw [13, 8] (fun y c wr => NoneRel w y c wr) (fun y _ _ => 2 - (intOf y).toNat)
  case atStart => exact ⟨rfl, rfl, (Below.refl _ _).alloc (Nat.le_refl _) _⟩
  case round =>
    obtain ⟨rfl, rfl, hb⟩ := hrel
    have HB := Lib.hid hb
    clear hb
    go_wp2_with fail
    refine (slots_read_none (w := wr) 0 (fun w' hw => H.out w' (Below.trans' HB.out hw HB.out.size))).mono ?_
    rintro e w2 ⟨G, cp, rfl, hb2, hs2, hG2⟩
    have HB2 := Lib.hid (Below.trans' HB.out hb2 HB.out.size)
    clear hb2 hs2 hG2
    go_wp2
    go_ret3
    exact ⟨rfl, HB2.out.alloc HB2.out.size _⟩
set_option maxRecDepth 100000 in
set_option maxHeartbeats 1600000 in
theorem sector_zero_open (w : World) (b : Nat) (hb : b < w.heap.size) (h1 : w.cell? ⟨b, 1, none⟩ = some (.map none)) :
    Calls Try.prog 8 #[.pointer (some ⟨b, 0, none⟩), .int .i64 0] w fun e w' => e = .returned (.tuple #[.pointer none, .slice none 0 0, .int .i64 1]) ∧ Below w.heap.size w w' :=
  slots_open_none fun w' hw => sector_read_zero w' b 0 ((hw.cell (p := ⟨b, 1, none⟩) hb).trans h1)
theorem sector_nil_open (w : World) : Calls Try.prog 8 #[.pointer none, .int .i64 0] w fun e w' => e = .returned (.tuple #[.pointer none, .slice none 0 0, .int .i64 1]) ∧ Below w.heap.size w w' :=
  slots_open_none fun w' _ => sector_read_nil w' 0
end Go.Proofs.Ytfcialmdediojaa
