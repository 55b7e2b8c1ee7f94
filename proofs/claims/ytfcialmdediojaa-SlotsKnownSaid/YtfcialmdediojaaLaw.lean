/-
  The law's opens.
-/
import Derived.Test.YtfcialmdediojaaAwP
import Derived.Lib.SlBytesConst
namespace Go.Proofs.Ytfcialmdediojaa
set_option linter.unusedVariables false
set_option linter.unusedSimpArgs false
open Go.RowKit
set_option maxRecDepth 100000 in
set_option maxHeartbeats 800000 in
theorem law_opens {w : World} {col : Col} {c db : Nat} {d : Dev} (h : DevP w col c db d) (hp : Plain w col) (first : Int) (hf : -1000000 ≤ first ∧ first ≤ 1000000) {t q : Nat} {x : UInt8} (ho : openS d first = (some (t, q, [x]), 0)) :
    Calls Try.prog 27 #[.pointer (some ⟨db, 0, none⟩), .int .i64 first, .string ⟨#[x]⟩, .int .i64 (t : Int)] w fun e w' => e = .returned (.bool true) ∧ Below w.heap.size w w' := by
  have HO := Lib.hid (slots_open h hp first hf)
  clear h
  go_enter Try.func27, Try.ntmps27
  go_wp2_with fail
  refine HO.out.mono ?_
  rw [ho]
  rintro e w1 ⟨hb1, s, G, cp, rfl, hs1, hsw, hG, hGb⟩
  have H1 := Lib.hid (And.intro hb1 hs1)
  obtain ⟨b, o, rfl, hlt, hc⟩ := hG (by simp [bytesV])
  have hcv : (convert 27 9 (.slice (some ⟨b, o, none⟩) 1 cp)).run Try.prog w1 = .ok (.string ⟨#[x]⟩) w1 := run_convert_bytes_back (P := Try.prog) w1 27 9 5 ⟨b, o, none⟩ cp [x] Try.underlying27 Try.underlying5 Try.underlying9 (fun j hj => by
    rw [Addr.add_mid, hc j (by simpa [bytesV] using hj)]; simp [bytesV, byteV])
  clear hb1 hs1 hGb hc ho HO
  go_wp2_with fail
  refine (slots_turn H1.out.2).mono ?_
  rintro e w2 ⟨rfl, rfl⟩
  go_wp2
  go_ret
  exact ⟨by simp, H1.out.1⟩
end Go.Proofs.Ytfcialmdediojaa
