/-
  Contracts of Go's library, and of the small helpers of the references: bytes.Clone, bytes.Equal, bytes.Count of one byte, slices.Clone, CopyBytes, CopyInts, EqBytes, Bring.
-/
import Derived.Test.YtfcialmdediojaaProg
import Derived.Test.YtfcialmdediojaaBase
import Derived.Shelf.Bytes.SlEqualAll
import Derived.Shelf.Bytes.SlCountOne
import Derived.Deep.QuietTactic
import Derived.BigQuiet
namespace Go.Proofs.Ytfcialmdediojaa
set_option linter.unusedVariables false
set_option linter.unusedSimpArgs false
open Go.RowKit

theorem infoU8 : (Try.prog.info? 5).map (fun i => (i.zero, i.size, i.bytes)) = some (some (.int .u8 0), 1, 1) := by kernel_rfl
theorem infoInt : (Try.prog.info? 3).map (fun i => (i.zero, i.size, i.bytes)) = some (some (.int .i64 0), 1, 8) := by kernel_rfl
def numsL (l : List UInt8) : List Int := l.map fun c : UInt8 => (c.toNat : Int)
theorem strOfNums_numsL (l : List UInt8) : strOfNums (numsL l) = ⟨l.toArray⟩ := by
  unfold strOfNums numsL
  rw [List.map_map]
  have : ((fun n : Int => UInt8.ofNat n.toNat) ∘ fun c : UInt8 => (c.toNat : Int)) = id := by funext c; simp
  rw [this, List.map_id]
theorem bytesOf_numsL (l : List UInt8) : Lib.bytesOf (numsL l) = l := by
  unfold Lib.bytesOf numsL
  rw [List.map_map]
  have : ((fun n : Int => UInt8.ofNat n.toNat) ∘ fun c : UInt8 => (c.toNat : Int)) = id := by funext c; simp
  rw [this, List.map_id]
theorem numsL_getD (l : List UInt8) (j : Nat) (h : j < l.length) : (numsL l).getD j 0 = (l[j].toNat : Int) := by simp [numsL, List.getD, h]
theorem Sl.bytesIn {w : World} {A : Option Addr} {l : List UInt8} (h : Sl w A (bytesV l)) : Lib.BytesIn w A l.length (numsL l) := by
  intro hn
  obtain ⟨b, o, rfl, _, hc⟩ := h (by rw [bytesV_len]; exact hn)
  refine ⟨b, o, rfl, fun i hi => ?_⟩
  rw [hc i (by rw [bytesV_len]; exact hi), numsL_getD l i hi]; simp [bytesV, byteV]
theorem conv_bytes {w : World} {A : Option Addr} {l : List UInt8} (h : Sl w A (bytesV l)) (c : Nat) : (convert 27 9 (.slice A l.length c)).run Try.prog w = .ok (.string ⟨l.toArray⟩) w := by
  have := Lib.BytesIn.convert (P := Try.prog) h.bytesIn (by simp [numsL]) c 27 5 9 Try.underlying27 Try.underlying5 Try.underlying9
  rw [strOfNums_numsL] at this; exact this
theorem lEqBytes (w : World) (a : Option Addr) (n c n' c' : Nat) : (binOp .eql 27 (.slice a n c) (.slice none n' c')).run Try.prog w = .ok (.bool a.isNone) w := Lib.run_eql_slice_nil w _ _ a n c n' c' Try.underlying27
theorem lEqInts (w : World) (a : Option Addr) (n c n' c' : Nat) : (binOp .eql 39 (.slice a n c) (.slice none n' c')).run Try.prog w = .ok (.bool a.isNone) w := Lib.run_eql_slice_nil w _ _ a n c n' c' Try.underlying39
attribute [local go_sem] lEqBytes lEqInts

/-- new bytes (or numbers) in memory of their own -/
def NewRow (w : World) (e : TypeId) (xs : List Value) (en : Ending) (w' : World) : Prop := ∃ v, en = .returned v ∧ w'.ownsRow w.heap.size e 1 v xs.length xs ∧ Below w.heap.size w w'
set_option maxRecDepth 100000 in
theorem bytes_clone {w : World} {A : Option Addr} {l : List UInt8} (h : Sl w A (bytesV l)) (c : Nat) (hl : l.length ≤ 140737488355328) :
    Calls Try.prog 13 #[.slice A l.length c] w (NewRow w 5 (bytesV l)) := by
  obtain ⟨i0, hi, hz0, hz1, hz2⟩ := info_parts infoU8
  cases A with
  | none =>
    have hn : l = [] := by
      cases l with
      | nil => rfl
      | cons x l => obtain ⟨b, o, e, _⟩ := h (by simp [bytesV]); cases e
    subst hn
    go_enter Try.func13, Try.ntmps13
    go_wp2
    go_ret
    exact ⟨_, rfl, ownsRow_nil _ _ _ _, Below.refl _ _⟩
  | some ad =>
    have H := Lib.hid h
    clear h
    go_enter Try.func13, Try.ntmps13
    go_wp2_with (at_builtin; refine wpList_append_sl _ rfl _ _ _ rfl w.heap.size 5 i0 (.int .u8 0) 1 Try.underlying27 hi hz0 hz1 hz2 rfl (.slice (some ⟨w.heap.size, 0, none⟩) 0 0) 0 [] rfl (ownsRow_empty w _) (some ad) l.length c (bytesV l) rfl (bytesV_len l) (H.out.alloc _) (oneCell_bytesV l) (by unfold maxLen; omega) (by omega) (by simp) ?_; intro v' w1 hown hgrow hat)
    go_ret
    refine ⟨_, rfl, by rw [bytesV_len]; simpa using hown, ?_⟩
    exact ((Below.refl _ _).alloc (Nat.le_refl _) _).grown hgrow (by simp) (fun k hk => by injection hk with hk; subst hk; exact Nat.le_refl _)
set_option maxRecDepth 100000 in
theorem bytes_equal {w : World} {A B : Option Addr} {l m : List UInt8} (h1 : Sl w A (bytesV l)) (h2 : Sl w B (bytesV m)) (c d : Nat) :
    Calls Try.prog 36 #[.slice A l.length c, .slice B m.length d] w fun e w' => e = .returned (.bool (l == m)) ∧ w = w' := by
  have e1 := conv_bytes h1 c
  have e2 := conv_bytes h2 d
  clear h1 h2
  go_enter Try.func36, Try.ntmps36
  go_wp2
  go_ret
  exact ⟨rfl, rfl⟩
set_option maxRecDepth 100000 in
theorem bytes_count {w : World} {A : Option Addr} {l : List UInt8} (h : Sl w A (bytesV l)) (c b2 d : Nat) (x : UInt8) (hc2 : w.cell? ⟨b2, 0, none⟩ = some (.int .u8 (x.toNat : Int))) :
    Calls Try.prog 35 #[.slice A l.length c, .slice (some ⟨b2, 0, none⟩) 1 d] w fun e w' => e = .returned (.int .i64 (l.count x : Nat)) ∧ w = w' := by
  have hrun : (Extern.BytealgCount.count #[.slice A l.length c, .int .u8 (x.toNat : Int)]).run Try.prog w = .ok (.int .i64 (l.count x : Nat)) w := by
    cases A with
    | none =>
      have hn : l = [] := by
        cases l with
        | nil => rfl
        | cons x l => obtain ⟨b, o, e, _⟩ := h (by simp [bytesV]); cases e
      subst hn
      exact Lib.run_countNil w 0 c _
    | some ad =>
      have := Lib.run_countAt (P := Try.prog) w ad l.length c (numsL l) (by simp [numsL]) (fun i hi => by
        have hh := h.bytesIn (by omega : 0 < l.length)
        obtain ⟨b, o, e, hcc⟩ := hh
        injection e with e; subst e
        rw [Addr.add_mid]; exact hcc i hi) (x.toNat : Int)
      rw [bytesOf_numsL] at this
      rw [this]
      simp [Lib.countByte]
  clear h
  go_enter Try.func35, Try.ntmps35
  go_wp2
  rw [run_callFunc_extern Try.func56 (by kernel_rfl) (by kernel_rfl) (by kernel_rfl) (e := Extern.BytealgCount.count) (by kernel_rfl), hrun]
  simp only [Result.andThen]
  rw [Oper.upon_value]
  go_wp2
  go_ret
  exact ⟨rfl, rfl⟩
set_option maxRecDepth 100000 in
theorem ints_clone {w : World} {A : Option Addr} {l : List Int} (h : Sl w A (l.map intV)) (c : Nat) (hl : l.length ≤ 17592186044416) :
    Calls Try.prog 62 #[.slice A l.length c] w (NewRow w 3 (l.map intV)) := by
  obtain ⟨i0, hi, hz0, hz1, hz2⟩ := info_parts infoInt
  cases A with
  | none =>
    have hn : l = [] := by
      cases l with
      | nil => rfl
      | cons x l => obtain ⟨b, o, e, _⟩ := h (by simp); cases e
    subst hn
    go_enter Try.func62, Try.ntmps62
    go_wp2
    go_ret
    exact ⟨_, rfl, ownsRow_nil _ _ _ _, Below.refl _ _⟩
  | some ad =>
    have H := Lib.hid h
    clear h
    go_enter Try.func62, Try.ntmps62
    go_wp2_with (at_builtin; refine wpList_append_sl _ rfl _ _ _ rfl w.heap.size 3 i0 (.int .i64 0) 8 Try.underlying39 hi hz0 hz1 hz2 rfl (.slice (some ⟨w.heap.size, 0, none⟩) 0 0) 0 [] rfl (ownsRow_empty w _) (some ad) l.length c (l.map intV) rfl (by simp) (H.out.alloc _) (oneCell_intsV l) (by unfold maxLen; omega) (by omega) (by simp) ?_; intro v' w1 hown hgrow hat)
    go_ret
    refine ⟨_, rfl, by rw [List.length_map]; simpa using hown, ?_⟩
    exact ((Below.refl _ _).alloc (Nat.le_refl _) _).grown hgrow (by simp) (fun k hk => by injection hk with hk; subst hk; exact Nat.le_refl _)
set_option maxRecDepth 100000 in
theorem copyBytes {w : World} {A : Option Addr} {l : List UInt8} (h : Sl w A (bytesV l)) (c : Nat) (hl : l.length ≤ 140737488355328) :
    Calls Try.prog 40 #[.slice A l.length c] w (NewRow w 5 (bytesV l)) := by
  obtain ⟨i0, hi, hz0, hz1, hz2⟩ := info_parts infoU8
  have H := Lib.hid h
  clear h
  go_enter Try.func40, Try.ntmps40
  go_wp2_with (at_builtin; refine wpList_append_sl _ rfl _ _ _ rfl w.heap.size 5 i0 (.int .u8 0) 1 Try.underlying27 hi hz0 hz1 hz2 rfl (.slice none 0 0) 0 [] rfl (ownsRow_nil w _ _ _) A l.length c (bytesV l) rfl (bytesV_len l) H.out (oneCell_bytesV l) (by unfold maxLen; omega) (by omega) (by simp) ?_; intro v' w1 hown hgrow hat)
  go_ret
  refine ⟨_, rfl, by rw [bytesV_len]; simpa using hown, ?_⟩
  exact (Below.refl _ _).grown hgrow (by simp) (fun k hk => by cases hk)
set_option maxRecDepth 100000 in
theorem copyInts {w : World} {A : Option Addr} {l : List Int} (h : Sl w A (l.map intV)) (c : Nat) (hl : l.length ≤ 17592186044416) :
    Calls Try.prog 63 #[.slice A l.length c] w (NewRow w 3 (l.map intV)) := by
  obtain ⟨i0, hi, hz0, hz1, hz2⟩ := info_parts infoInt
  have H := Lib.hid h
  clear h
  go_enter Try.func63, Try.ntmps63
  go_wp2_with (at_builtin; refine wpList_append_sl _ rfl _ _ _ rfl w.heap.size 3 i0 (.int .i64 0) 8 Try.underlying39 hi hz0 hz1 hz2 rfl (.slice none 0 0) 0 [] rfl (ownsRow_nil w _ _ _) A l.length c (l.map intV) rfl (by simp) H.out (oneCell_intsV l) (by unfold maxLen; omega) (by omega) (by simp) ?_; intro v' w1 hown hgrow hat)
  go_ret
  refine ⟨_, rfl, by rw [List.length_map]; simpa using hown, ?_⟩
  exact (Below.refl _ _).grown hgrow (by simp) (fun k hk => by cases hk)

def Drawn (w w' : World) : Prop := ∃ q, w' = w.drewN q
theorem Drawn.refl (w : World) : Drawn w w := ⟨0, rfl⟩
theorem Drawn.below {w w' : World} (h : Drawn w w') : Below w.heap.size w w' := by obtain ⟨q, rfl⟩ := h; exact ⟨rfl, rfl, rfl, Nat.le_refl _, fun _ _ => rfl⟩
theorem Drawn.trans {a b c : World} (h : Drawn a b) (k : Drawn b c) : Drawn a c := by
  obtain ⟨q, rfl⟩ := h; obtain ⟨r, rfl⟩ := k; exact ⟨q + r, by rw [World.drewN_drewN]⟩
def EqRel (w : World) (l m : List UInt8) (x : Value) (wr : World) : Prop := ∃ k : Nat, k ≤ l.length ∧ x = .int .i64 (k : Int) ∧ l.take k = m.take k ∧ Drawn w wr
set_option maxRecDepth 100000 in
set_option maxHeartbeats 800000 in
theorem eqBytes {w : World} {A B : Option Addr} {l m : List UInt8} (h1 : Sl w A (bytesV l)) (h2 : Sl w B (bytesV m)) (c d : Nat) (hl : l.length ≤ 140737488355328) :
    Calls Try.prog 38 #[.slice A l.length c, .slice B m.length d] w fun e w' => e = .returned (.bool (l == m)) ∧ Drawn w w' := by
  by_cases hlen : l.length = m.length
  · have H1 := Lib.hid h1
    have H2 := Lib.hid h2
    clear h1 h2
    have hb : (((l.length : Int)) != ((m.length : Int))) = false := by simp [hlen]
    have HL := Lib.hid hlen
    clear hlen
    go_enter Try.func38, Try.ntmps38
    go_wp2
    go_loopw [5] (fun x wr => EqRel w l m x wr) (fun x _ => l.length - (intOf x).toNat)
    case atStart => exact ⟨0, Nat.zero_le _, rfl, by simp, Drawn.refl w⟩
    case round =>
      obtain ⟨k, hk, rfl, heq, hdr⟩ := hrel
      have HE := Lib.hid heq
      have HD := Lib.hid hdr
      clear heq
      by_cases hlt : k < l.length
      · obtain ⟨b1, o1, rfl, -, hc1⟩ := H1.out.at_ (k := k) (by rw [bytesV_len]; exact hlt)
        obtain ⟨b2, o2, rfl, -, hc2⟩ := H2.out.at_ (k := k) (by rw [bytesV_len]; have := HL.out; omega)
        have hlm : k < m.length := by have := HL.out; omega
        have c1 : wr.cell? ⟨b1, o1 + k, none⟩ = some (.int .u8 (l[k].toNat : Int)) := by obtain ⟨q, rfl⟩ := HD.out; simpa [bytesV, byteV] using hc1
        have c2 : wr.cell? ⟨b2, o2 + k, none⟩ = some (.int .u8 (m[k].toNat : Int)) := by obtain ⟨q, rfl⟩ := HD.out; simpa [bytesV, byteV] using hc2
        clear hc1 hc2 hdr
        have i0 : (0 : Int) ≤ (k : Int) := by omega
        have i1 : (k : Int) < (l.length : Int) := by omega
        have i2 : (k : Int) < (m.length : Int) := by omega
        have t1 : l.take (k + 1) = l.take k ++ [l[k]] := List.take_succ_eq_append_getElem hlt
        have t2 : m.take (k + 1) = m.take k ++ [m[k]] := List.take_succ_eq_append_getElem hlm
        have HT := Lib.hid (And.intro t1 t2)
        clear t1 t2
        have hne1 : Hid (l[k] ≠ m[k] → (l == m) = false) := fun hne => by
          rw [beq_eq_false_iff_ne]; intro e; subst e; exact hne rfl
        generalize l[k] = x at *
        generalize m[k] = y at *
        by_cases hxy : x = y
        · subst hxy
          go_wp2_with fail
          go_quiet (fail)
          go_wp2
          go_roundw
          case rel => exact ⟨k + 1, by omega, by go_num, by rw [HT.out.1, HT.out.2, HE.out], HD.out.trans ⟨_, rfl⟩⟩
          case measure => simp [intOf]; omega
        · have Hf := Lib.hid (hne1.out hxy)
          have hnat : ((x.toNat : Int) != (y.toNat : Int)) = true := by
            rw [bne_iff_ne]; intro e; exact hxy (UInt8.toNat_inj.1 (by omega))
          clear hxy
          go_wp2_with fail
          go_quiet (fail)
          go_wp2
          go_ret
          exact ⟨by rw [Hf.out]; rfl, HD.out.trans ⟨_, rfl⟩⟩
      · have hkn : k = l.length := by omega
        subst hkn
        have he : (l == m) = true := by
          have h := HE.out; have hh := HL.out
          rw [List.take_length, hh, List.take_length] at h
          rw [h]; simp
        have Hf := Lib.hid he
        clear he hdr
        go_wp2
        go_ret
        exact ⟨by rw [Hf.out]; rfl, HD.out⟩
  · have hb : (((l.length : Int)) != ((m.length : Int))) = true := by rw [bne_iff_ne]; omega
    have he : (l == m) = false := by rw [beq_eq_false_iff_ne]; intro e; subst e; exact hlen rfl
    rw [he]
    clear h1 h2 hlen he
    go_enter Try.func38, Try.ntmps38
    go_wp2
    go_ret
    exact ⟨rfl, Drawn.refl w⟩
/-- Bring: a number from 0 to n - 1 -/
theorem bring_emod (i : Int) (n : Nat) (hn : 0 < n) : (if i.tmod n < 0 then i.tmod n + n else i.tmod n) = i % n := by
  have h1 := @Int.tmod_eq_emod i n
  have h2 := Int.emod_nonneg i (show (n : Int) ≠ 0 by omega)
  have h3 := Int.emod_lt_of_pos i (show (0 : Int) < n by omega)
  have h4 : ((n : Int).natAbs : Int) = n := by simp
  by_cases hc : 0 ≤ i ∨ (n : Int) ∣ i
  · rw [if_pos hc] at h1
    rw [if_neg (by omega)]; omega
  · rw [if_neg hc, h4] at h1
    rw [if_pos (by omega)]; omega
set_option maxRecDepth 100000 in
theorem bring {w : World} (i : Int) (n : Nat) (hn : 0 < n) (h1 : -9223372036854775808 ≤ i) (h2 : i ≤ 9223372036854775807) (hn2 : n ≤ 1000000) :
    Calls Try.prog 39 #[.int .i64 i, .int .i64 (n : Int)] w fun e w' => e = .returned (.int .i64 (i % n)) ∧ w = w' := by
  have he := bring_emod i n hn
  have HE := Lib.hid he
  have hlt : -(n : Int) < i.tmod n := by
    have h1 := @Int.tmod_eq_emod i n
    have h2 := Int.emod_nonneg i (show (n : Int) ≠ 0 by omega)
    have h4 : ((n : Int).natAbs : Int) = n := by simp
    split at h1 <;> omega
  have hlt2 : i.tmod n < n := by
    have h1 := @Int.tmod_eq_emod i n
    have h3 := Int.emod_lt_of_pos i (show (0 : Int) < n by omega)
    have h4 : ((n : Int).natAbs : Int) = n := by simp
    split at h1 <;> omega
  have hn0 : ¬ ((n : Int) = 0) := by omega
  clear he
  by_cases hneg : i.tmod n < 0
  · have HF : Hid (i.tmod n + n = i % n) := by have := HE.out; rw [if_pos hneg] at this; exact this
    go_enter Try.func39, Try.ntmps39
    go_wp2
    go_ret
    exact ⟨by rw [← HF.out]; rfl, rfl⟩
  · have HF : Hid (i.tmod n = i % n) := by have := HE.out; rw [if_neg hneg] at this; exact this
    go_enter Try.func39, Try.ntmps39
    go_wp2
    go_ret
    exact ⟨by rw [← HF.out]; rfl, rfl⟩
end Go.Proofs.Ytfcialmdediojaa
