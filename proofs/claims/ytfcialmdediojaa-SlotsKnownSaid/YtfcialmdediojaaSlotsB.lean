/-
  slots.read.
-/
import Derived.Test.YtfcialmdediojaaSlots
import Derived.Laws.ResultCell
namespace Go.Proofs.Ytfcialmdediojaa
set_option linter.unusedVariables false
set_option linter.unusedSimpArgs false
open Go.RowKit
def beNat (l : List UInt8) : Nat := l.foldl (fun a c => a * 256 + c.toNat) 0
theorem beNat_snoc (l : List UInt8) (c : UInt8) : beNat (l ++ [c]) = beNat l * 256 + c.toNat := by simp [beNat]
theorem beNat_lt (l : List UInt8) : ∀ a : Nat, l.foldl (fun a c => a * 256 + c.toNat) a < (a + 1) * 256 ^ l.length := by
  induction l with
  | nil => intro a; simp
  | cons c l ih =>
    intro a
    have h1 := ih (a * 256 + c.toNat)
    have h2 : c.toNat < 256 := UInt8.toNat_lt c
    have h3 : (a * 256 + c.toNat + 1) * 256 ^ l.length ≤ ((a + 1) * 256) * 256 ^ l.length := Nat.mul_le_mul_right _ (by omega)
    show l.foldl _ (a * 256 + c.toNat) < _
    rw [List.length_cons, Nat.pow_succ, Nat.mul_comm (256 ^ l.length), ← Nat.mul_assoc]
    omega
theorem beNat_take_lt (x : List UInt8) {k : Nat} (h : k < 8) : beNat (x.take k) < 72057594037927936 := by
  have h1 := beNat_lt (x.take k) 0
  have h2 : 256 ^ (x.take k).length ≤ 256 ^ 7 := Nat.pow_le_pow_right (by omega) (by rw [List.length_take]; omega)
  unfold beNat
  omega
theorem beNat_take_lt8 (x : List UInt8) : beNat (x.take 8) < 18446744073709551616 := by
  have h1 := beNat_lt (x.take 8) 0
  have h2 : 256 ^ (x.take 8).length ≤ 256 ^ 8 := Nat.pow_le_pow_right (by omega) (by rw [List.length_take]; omega)
  unfold beNat
  omega
theorem or_byte (n : Nat) (c : UInt8) (h : n < 72057594037927936) : bits .or .u64 ((n : Int) * 256) (c.toNat : Int) = ((n * 256 + c.toNat : Nat) : Int) := by
  have h2 : c.toNat < 256 := UInt8.toNat_lt c
  have := u64_or_nat (n * 256) c.toNat (by omega) (by omega)
  have h3 := Nat.two_pow_add_eq_or_of_lt (i := 8) (b := c.toNat) h2 n
  rw [show n * 256 = 2 ^ 8 * n from by omega, ← h3] at this
  rw [show ((n : Int) * 256) = ((2 ^ 8 * n : Nat) : Int) from by omega, this]
  congr 1; omega
def slotOf (x : List UInt8) : Option (Nat × List UInt8) :=
  if x.count 0 = x.length then some (0, [])
  else if beNat (x.take 8) = 0 ∨ 9007199254740991 < beNat (x.take 8) ∨ 100 < (x.getD 8 0).toNat then none
  else if slotB (beNat (x.take 8)) ((x.drop 9).take (x.getD 8 0).toNat) = x then some (beNat (x.take 8), (x.drop 9).take (x.getD 8 0).toNat) else none
def readS (d : Dev) (i : Int) : Nat × List UInt8 × Int :=
  if (d.read i).2 ≠ 0 then (0, [], (d.read i).2) else match slotOf (d.read i).1 with | some (t, x) => (t, x, 0) | none => (0, [], 110)
def SlotV (w w' : World) (r : Nat × List UInt8 × Int) (e : Ending) : Prop :=
  ∃ G cp, e = .returned (.tuple #[.agg #[.int .i64 (r.1 : Int), .slice G r.2.1.length cp], .int .i64 r.2.2]) ∧ Below w.heap.size w w' ∧ Sl w' G (bytesV r.2.1) ∧ ∀ ad, G = some ad → w.heap.size ≤ ad.block
theorem slotV_ret {w w' : World} {r : Nat × List UInt8 × Int} {G : Option Addr} {cp : Nat} {a : Act} (ha : a.defers = []) (h4 : a.tmps.getD 4 undef = .pointer (some ⟨w.heap.size, 0, none⟩)) (h5 : a.tmps.getD 5 undef = .int .i64 r.2.2)
    (hb : Blk w' w.heap.size 29 #[.int .i64 (r.1 : Int), .slice G r.2.1.length cp]) (hbel : Below w.heap.size w w') (hs : Sl w' G (bytesV r.2.1)) (hG : ∀ ad, G = some ad → w.heap.size ≤ ad.block) :
    bodyPost Try.prog Try.f18 (fun e w' => SlotV w w' r e) .ret a w' := by
  have hl := run_loadVar_mid (P := Try.prog) w' w.heap.size 0 29 [.int .i64 (r.1 : Int), .slice G r.2.1.length cp] _ (hb.rangeAt (fun j hj => by rw [Nat.zero_add]; simp)) Try.underlying29 rfl (by kernel_rfl)
  refine bodyPost_ret (v := .tuple #[.agg #[.int .i64 (r.1 : Int), .slice G r.2.1.length cp], .int .i64 r.2.2]) ?_ ha ⟨G, cp, rfl, hbel, hs, hG⟩
  rw [results_cell_tmp (p := 4) (u := 5) (ty := 29) (by kernel_rfl), h4, h5]
  simp [asAddr, hl, Result.andThen]
theorem read_len {d : Dev} (h : d.OK) {i : Int} (he : (d.read i).2 = 0) : (d.read i).1.length = 128 := by
  unfold Dev.read at he ⊢
  by_cases ha : d.at_ i = 0
  · rw [if_pos ha]
    show (d.l.getD i.toNat Sec.zero).now.length = 128
    have hin : 0 ≤ i ∧ i < d.l.length := by
      unfold Dev.at_ at ha
      split at ha
      · omega
      split at ha
      · omega
      · omega
    have hlt : i.toNat < d.l.length := by omega
    rw [show d.l.getD i.toNat Sec.zero = d.l[i.toNat] from by simp [List.getD, hlt]]
    exact h.now _ (List.getElem_mem _)
  · rw [if_neg ha] at he
    exact absurd he ha
set_option maxRecDepth 100000 in
set_option maxHeartbeats 1600000 in
theorem slots_read {w : World} {col : Col} {c b : Nat} {d : Dev} (h : DevP w col c b d) (hp : Plain w col) (i : Int) :
    Calls Try.prog 18 #[.pointer (some ⟨b, 0, none⟩), .int .i64 i] w (fun e w' => SlotV w w' (readS d i) e) := by
  have hok := h.ok
  by_cases he : (d.read i).2 = 0
  · have hlen := read_len hok he
    have hr : readS d i = match slotOf (d.read i).1 with | some (t, x) => (t, x, 0) | none => (0, [], 110) := by unfold readS; rw [if_neg (by rw [he]; simp)]
    generalize readS d i = r at *
    have HRR := Lib.hid hr
    clear hr
    have H := Lib.hid h
    clear h
    go_enter Try.func18, Try.ntmps18
    go_wp2_with fail
    have b0 := Blk.new w 29 #[.int .i64 0, .slice none 0 0]
    have hb0 : Below w.heap.size w (w.alloc (.cells #[.int .i64 0, .slice none 0 0] 29)) := (Below.refl _ _).alloc (Nat.le_refl _) _
    have H0 := Lib.hid (H.out.ext (.of_below hb0 hp) (C := fun _ => False) (fun h => h))
    generalize w.alloc (.cells #[.int .i64 0, .slice none 0 0] 29) = w1 at *
    refine (sector_read H0.out i).mono ?_
    rintro e w2 ⟨v, rfl, hown, hb2⟩
    obtain ⟨G, cp, rfl, hG, hcp, hGpos, hGbase⟩ := slice_of_own hown
    have H2 := Lib.hid (And.intro (b0.below hb2 b0.lt) (Below.trans' hb0 hb2 hb0.size))
    have HG := Lib.hid (And.intro hG (And.intro hGpos hGbase))
    have HS1 := Lib.hid b0.lt
    clear b0 hb0 hb2 hown hG hGpos hGbase
    rw [he]
    clear he
    generalize (d.read i).1 = x at *
    have HLEN := Lib.hid hlen
    clear hlen
    go_wp2_with fail
    have b1 := Blk.new w2 5 #[.int .u8 0]
    have hb1 : Below w2.heap.size w2 (w2.alloc (.cells #[.int .u8 0] 5)) := (Below.refl _ _).alloc (Nat.le_refl _) _
    have HS3 := Lib.hid (HG.out.1.alloc (.cells #[.int .u8 0] 5))
    have H3 := Lib.hid (And.intro (H2.out.1.below hb1 H2.out.1.lt) (Below.trans' H2.out.2 hb1 H2.out.2.size))
    refine (bytes_count HS3.out cp w2.heap.size 1 0 (b1.cell 0)).mono ?_
    rintro e w4 ⟨rfl, rfl⟩
    clear b1 hb1
    have hg1 := HG.out.2.1 (by rw [HLEN.out]; omega)
    have hle := HS1.out
    obtain ⟨g, rfl, hgb⟩ := hg1
    have HGB : Hid (w.heap.size < g) := Nat.lt_of_lt_of_le hle hgb
    generalize w2.alloc (.cells #[.int .u8 0] 5) = w3 at *
    have hcp2 : 128 ≤ cp := by have := HLEN.out; omega
    clear hgb hle HG H2 H0 HS1 hcp H
    have k0 : w3.cell? ⟨w.heap.size, 0, none⟩ = some (.int .i64 0) := H3.out.1.cell 0
    have k1 : w3.cell? ⟨w.heap.size, 1, none⟩ = some (.slice none 0 0) := H3.out.1.cell 1
    have z0 := H3.out.1.frozen 0
    have z1 := H3.out.1.frozen 1
    by_cases hc : x.count 0 = x.length
    · have hr : slotOf x = some (0, []) := by unfold slotOf; rw [if_pos hc]
      obtain rfl : r = (0, [], 0) := by rw [HRR.out, hr]
      have hcb : (((x.count 0 : Nat) : Int) == ((x.length : Nat) : Int)) = true := by rw [beq_iff_eq]; omega
      clear hc hr HRR
      go_wp2
      refine slotV_ret (G := none) (cp := 0) rfl rfl rfl ?_ ?_ (Sl.nil _ _) (fun ad h => by cases h)
      · have := (H3.out.1.set_ 0 (.int .i64 0)).set_ 1 (.slice none 0 0)
        simpa using this
      · exact (H3.out.2.setCell (p := ⟨w.heap.size, 0, none⟩) (Nat.le_refl _) _).setCell (p := ⟨w.heap.size, 1, none⟩) (Nat.le_refl _) _
    · have hcb : (((x.count 0 : Nat) : Int) == ((x.length : Nat) : Int)) = false := by rw [beq_eq_false_iff_ne]; omega
      have HC := Lib.hid hc
      clear hc
      have hl := HLEN.out
      go_wp2_with fail
      clear k0 k1 z0 z1
      go_loopw [32, 7] (fun y z wr => ∃ k : Nat, k ≤ 8 ∧ y = .int .i64 (k : Int) ∧ z = .int .u64 (beNat (x.take k) : Nat) ∧ wr = w3) (fun y _ _ => 8 - (intOf y).toNat)
      case atStart => exact ⟨0, by omega, rfl, rfl, rfl⟩
      case round =>
        obtain ⟨k, hk, rfl, rfl, rfl⟩ := hrel
        by_cases hlt : k < 8
        · have hkx : k < x.length := by omega
          obtain ⟨b1, o1, e1, hb1, hc1⟩ := HS3.out.at_ (k := k) (by rw [bytesV_len]; exact hkx)
          injection e1 with e1; injection e1 with e1 e2; subst e1; subst e2
          have c1 : wr.cell? ⟨g, k, none⟩ = some (.int .u8 (x[k].toNat : Int)) := by rw [Nat.zero_add] at hc1; simpa [bytesV, byteV] using hc1
          have hx : x[k].toNat < 256 := UInt8.toNat_lt _
          have hn := beNat_take_lt x hlt
          have hor := or_byte (beNat (x.take k)) x[k] hn
          have HK : Hid (beNat (x.take (k + 1)) = beNat (x.take k) * 256 + x[k].toNat) := Lib.hid (by rw [List.take_succ_eq_append_getElem hkx, beNat_snoc])
          have i0 : (0 : Int) ≤ (k : Int) := by omega
          have i1 : (k : Int) < 8 := by omega
          clear hc1 hb1
          generalize beNat (x.take k) = n at *
          generalize x[k].toNat = cc at *
          go_wp2
          go_roundw
          case rel => exact ⟨k + 1, by omega, by go_num, by rw [HK.out, Int.natCast_add, Int.natCast_mul]; rfl, by first | rfl | trivial⟩
          case measure => simp [intOf]; omega
        · obtain rfl : k = 8 := by omega
          have hkx : 8 < x.length := by omega
          obtain ⟨b1, o1, e1, hb1, hc1⟩ := HS3.out.at_ (k := 8) (by rw [bytesV_len]; exact hkx)
          injection e1 with e1; injection e1 with e1 e2; subst e1; subst e2
          have hgd : x.getD 8 0 = x[8] := by simp [List.getD, hkx]
          have c1 : wr.cell? ⟨g, 8, none⟩ = some (.int .u8 ((x.getD 8 0).toNat : Int)) := by rw [Nat.zero_add] at hc1; rw [hgd]; simpa [bytesV, byteV] using hc1
          have hx : (x.getD 8 0).toNat < 256 := UInt8.toNat_lt _
          have hn := beNat_take_lt8 x
          have HSO : Hid (slotOf x = if beNat (x.take 8) = 0 ∨ 9007199254740991 < beNat (x.take 8) ∨ 100 < (x.getD 8 0).toNat then none
              else if slotB (beNat (x.take 8)) ((x.drop 9).take (x.getD 8 0).toNat) = x then some (beNat (x.take 8), (x.drop 9).take (x.getD 8 0).toNat) else none) := Lib.hid (by unfold slotOf; rw [if_neg HC.out])
          clear hc1 hb1 hgd
          generalize beNat (x.take 8) = n at *
          generalize (x.getD 8 0).toNat = q at *
          have k0 : wr.cell? ⟨w.heap.size, 0, none⟩ = some (.int .i64 0) := H3.out.1.cell 0
          have k1 : wr.cell? ⟨w.heap.size, 1, none⟩ = some (.slice none 0 0) := H3.out.1.cell 1
          have z0 := H3.out.1.frozen 0
          have z1 := H3.out.1.frozen 1
          by_cases hbad : n = 0 ∨ 9007199254740991 < n ∨ 100 < q
          · obtain rfl : r = (0, [], 110) := by rw [HRR.out, HSO.out, if_pos hbad]
            have HF : Hid (∀ a, a.defers = [] → a.tmps.getD 4 undef = .pointer (some ⟨w.heap.size, 0, none⟩) → a.tmps.getD 5 undef = .int .i64 110 → bodyPost Try.prog Try.f18 (fun e w' => SlotV w w' (0, [], 110) e) .ret a ((wr.setCell ⟨w.heap.size, 0, none⟩ (.int .i64 0)).setCell ⟨w.heap.size, 1, none⟩ (.slice none 0 0))) := Lib.hid fun a ha h4 h5 =>
              slotV_ret (G := none) (cp := 0) ha h4 h5 (by have := (H3.out.1.set_ 0 (.int .i64 0)).set_ 1 (.slice none 0 0); simpa using this) ((H3.out.2.setCell (p := ⟨w.heap.size, 0, none⟩) (Nat.le_refl _) _).setCell (p := ⟨w.heap.size, 1, none⟩) (Nat.le_refl _) _) (Sl.nil _ _) (fun ad h => by cases h)
            by_cases h1 : n = 0
            · subst h1
              clear hbad HSO HRR HC
              go_wp2
              exact HF.out _ rfl rfl rfl
            · have h1b : ((n : Int) == 0) = false := by rw [beq_eq_false_iff_ne]; omega
              by_cases h2 : 9007199254740991 < n
              · have h2b : decide ((9007199254740991 : Int) < (n : Int)) = true := by simp; omega
                clear hbad HSO HRR HC
                go_wp2
                exact HF.out _ rfl rfl rfl
              · have h2b : decide ((9007199254740991 : Int) < (n : Int)) = false := by simp; omega
                have h3b : decide ((100 : Int) < (q : Int)) = true := by simp; omega
                clear hbad HSO HRR HC
                go_wp2
                exact HF.out _ rfl rfl rfl
          · have h1b : ((n : Int) == 0) = false := by rw [beq_eq_false_iff_ne]; omega
            have h2b : decide ((9007199254740991 : Int) < (n : Int)) = false := by simp; omega
            have h3b : decide ((100 : Int) < (q : Int)) = false := by simp; omega
            have hq : q ≤ 100 := by omega
            have hn2 : n ≤ 9007199254740991 := by omega
            have HR2 : Hid (r = if slotB n ((x.drop 9).take q) = x then (n, (x.drop 9).take q, 0) else (0, [], 110)) := Lib.hid (by
              rw [HRR.out, HSO.out, if_neg hbad]
              by_cases hh : slotB n ((x.drop 9).take q) = x
              · rw [if_pos hh, if_pos hh]
              · rw [if_neg hh, if_neg hh])
            have hyl : ((x.drop 9).take q).length = q := by rw [List.length_take, List.length_drop]; omega
            have hys : Sl wr (some ⟨g, 9, none⟩) (bytesV ((x.drop 9).take q)) := fun _ => ⟨g, 9, rfl, (HS3.out (by rw [bytesV_len]; omega)).elim fun b h => h.elim fun o h => by obtain ⟨e, hlt, _⟩ := h; injection e with e; injection e with e1; subst e1; exact hlt, fun j hj => by
              rw [bytesV_len, hyl] at hj
              obtain ⟨b1, o1, e1, -, hc1⟩ := HS3.out.at_ (k := 9 + j) (by rw [bytesV_len]; omega)
              injection e1 with e1; injection e1 with e1 e2; subst e1; subst e2
              rw [Nat.zero_add] at hc1; rw [hc1]; simp [bytesV]⟩
            generalize (x.drop 9).take q = y at *
            have hcl := bytes_clone hys (cp - 9) (by omega)
            rw [hyl] at hcl
            have HCL := Lib.hid hcl
            have HYL := Lib.hid hyl
            have hcp3 : cp ≠ 9 := by omega
            clear hbad HSO HRR HC hcl hys hyl
            go_wp2_with fail
            refine HCL.out.mono ?_
            rintro e w4 ⟨v, rfl, hown, hb4⟩
            obtain ⟨G, cp4, rfl, hG, hcp4, hGpos, hGbase⟩ := slice_of_own hown
            rw [bytesV_len, HYL.out] at hcp4 ⊢
            have H4 := Lib.hid (And.intro (H3.out.1.below hb4 H3.out.1.lt) (And.intro (Below.trans' H3.out.2 hb4 H3.out.2.size) (And.intro hG (And.intro (HS3.out.below hb4 (Nat.le_refl _)) (fun ad ha => Nat.lt_of_lt_of_le H3.out.1.lt (hGbase ad ha))))))
            have k0 : w4.cell? ⟨w.heap.size, 0, none⟩ = some (.int .i64 0) := H4.out.1.cell 0
            have k1 : w4.cell? ⟨w.heap.size, 1, none⟩ = some (.slice none 0 0) := H4.out.1.cell 1
            have z0 := H4.out.1.frozen 0
            have z1 := H4.out.1.frozen 1
            clear hown hb4 hG hGpos hGbase
            go_wp2_with fail
            have hb5 : Blk ((w4.setCell ⟨w.heap.size, 0, none⟩ (.int .i64 (n : Int))).setCell ⟨w.heap.size, 1, none⟩ (.slice G q cp4)) w.heap.size 29 #[.int .i64 (n : Int), .slice G q cp4] := by
              have := (H4.out.1.set_ 0 (.int .i64 (n : Int))).set_ 1 (.slice G q cp4); simpa using this
            have hbe5 : Below w.heap.size w ((w4.setCell ⟨w.heap.size, 0, none⟩ (.int .i64 (n : Int))).setCell ⟨w.heap.size, 1, none⟩ (.slice G q cp4)) := (H4.out.2.1.setCell (p := ⟨w.heap.size, 0, none⟩) (Nat.le_refl _) _).setCell (p := ⟨w.heap.size, 1, none⟩) (Nat.le_refl _) _
            have hy5 : Sl ((w4.setCell ⟨w.heap.size, 0, none⟩ (.int .i64 (n : Int))).setCell ⟨w.heap.size, 1, none⟩ (.slice G q cp4)) G (bytesV y) := (H4.out.2.2.1.setCell _ (fun ad ha _ => Nat.ne_of_gt (H4.out.2.2.2.2 ad ha))).setCell _ (fun ad ha _ => Nat.ne_of_gt (H4.out.2.2.2.2 ad ha))
            have hx5 : Sl ((w4.setCell ⟨w.heap.size, 0, none⟩ (.int .i64 (n : Int))).setCell ⟨w.heap.size, 1, none⟩ (.slice G q cp4)) (some ⟨g, 0, none⟩) (bytesV x) := (H4.out.2.2.2.1.setCell _ (fun ad ha _ => by injection ha with ha; subst ha; exact Nat.ne_of_gt HGB.out)).setCell _ (fun ad ha _ => by injection ha with ha; subst ha; exact Nat.ne_of_gt HGB.out)
            have hGw := H4.out.2.2.2.2
            generalize (w4.setCell ⟨w.heap.size, 0, none⟩ (.int .i64 (n : Int))).setCell ⟨w.heap.size, 1, none⟩ (.slice G q cp4) = w5 at *
            have H5 := Lib.hid (And.intro hb5 (And.intro hbe5 (And.intro hy5 (And.intro hx5 hGw))))
            clear hb5 hbe5 hy5 hx5 hGw k0 k1 z0 z1 H4
            have hwr := slot_written H5.out.2.2.1 cp4 n (by omega) (by rw [HYL.out]; exact hq)
            rw [HYL.out] at hwr
            refine hwr.mono ?_
            clear hwr
            rintro e w6 ⟨v, rfl, hown, hb6⟩
            obtain ⟨G6, cp6, rfl, hG6, hcp6, -, hGb6⟩ := slice_of_own hown
            rw [bytesV_len] at *
            have H6 := Lib.hid (And.intro (H5.out.1.below hb6 H5.out.1.lt) (And.intro (Below.trans' H5.out.2.1 hb6 H5.out.2.1.size) (And.intro (H5.out.2.2.1.below hb6 (Nat.le_refl _)) (And.intro (H5.out.2.2.2.1.below hb6 (Nat.le_refl _)) (And.intro H5.out.2.2.2.2 hG6)))))
            clear hown hb6 hG6 hGb6 H5
            go_wp2_with fail
            have heq := bytes_equal H6.out.2.2.2.2.2 H6.out.2.2.2.1 cp6 cp
            rw [HLEN.out] at heq
            refine heq.mono ?_
            clear heq
            rintro e w7 ⟨rfl, rfl⟩
            have k0 : w6.cell? ⟨w.heap.size, 0, none⟩ = some (.int .i64 (n : Int)) := H6.out.1.cell 0
            have k1 : w6.cell? ⟨w.heap.size, 1, none⟩ = some (.slice G q cp4) := H6.out.1.cell 1
            have z0 := H6.out.1.frozen 0
            have z1 := H6.out.1.frozen 1
            by_cases hh : slotB n y = x
            · obtain rfl : r = (n, y, 0) := by rw [HR2.out, if_pos hh]
              rw [show (slotB n y == x) = true from by rw [beq_iff_eq]; exact hh]
              clear hh HR2
              go_wp2
              refine slotV_ret (G := G) (cp := cp4) rfl rfl rfl ?_ ?_ ?_ (fun ad h => Nat.le_of_lt (H6.out.2.2.2.2.1 ad h))
              · have := (H6.out.1.set_ 0 (.int .i64 (n : Int))).set_ 1 (.slice G q cp4)
                show Blk _ _ _ #[.int .i64 (n : Int), .slice G y.length cp4]
                rw [HYL.out]
                simpa using this
              · exact (H6.out.2.1.setCell (p := ⟨w.heap.size, 0, none⟩) (Nat.le_refl _) _).setCell (p := ⟨w.heap.size, 1, none⟩) (Nat.le_refl _) _
              · exact (H6.out.2.2.1.setCell _ (fun ad ha _ => Nat.ne_of_gt (H6.out.2.2.2.2.1 ad ha))).setCell _ (fun ad ha _ => Nat.ne_of_gt (H6.out.2.2.2.2.1 ad ha))
            · obtain rfl : r = (0, [], 110) := by rw [HR2.out, if_neg hh]
              rw [show (slotB n y == x) = false from by rw [beq_eq_false_iff_ne]; exact hh]
              clear hh HR2
              go_wp2
              refine slotV_ret (G := none) (cp := 0) rfl rfl rfl ?_ ?_ (Sl.nil _ _) (fun ad h => by cases h)
              · have := (H6.out.1.set_ 0 (.int .i64 0)).set_ 1 (.slice none 0 0)
                simpa using this
              · exact (H6.out.2.1.setCell (p := ⟨w.heap.size, 0, none⟩) (Nat.le_refl _) _).setCell (p := ⟨w.heap.size, 1, none⟩) (Nat.le_refl _) _
  · have hr : readS d i = (0, [], (d.read i).2) := by unfold readS; rw [if_pos he]
    have hne : ((d.read i).2 != 0) = true := by rw [bne_iff_ne]; exact he
    rw [hr]
    clear he hr
    have H := Lib.hid h
    clear h
    go_enter Try.func18, Try.ntmps18
    go_wp2_with fail
    have b0 := Blk.new w 29 #[.int .i64 0, .slice none 0 0]
    have hb0 : Below w.heap.size w (w.alloc (.cells #[.int .i64 0, .slice none 0 0] 29)) := (Below.refl _ _).alloc (Nat.le_refl _) _
    have H0 := Lib.hid (H.out.ext (.of_below hb0 hp) (C := fun _ => False) (fun h => h))
    generalize w.alloc (.cells #[.int .i64 0, .slice none 0 0] 29) = w1 at *
    refine (sector_read H0.out i).mono ?_
    rintro e w2 ⟨v, rfl, hown, hb2⟩
    obtain ⟨G, cp, rfl, hG, hcp, hGpos, hGbase⟩ := slice_of_own hown
    have H2 := Lib.hid (And.intro (b0.below hb2 b0.lt) (Below.trans' hb0 hb2 hb0.size))
    have HG := Lib.hid (And.intro hG (And.intro hGpos hGbase))
    have HS1 := Lib.hid b0.lt
    clear b0 hb0 hb2 hown hG hGpos hGbase
    have k0 : w2.cell? ⟨w.heap.size, 0, none⟩ = some (.int .i64 0) := H2.out.1.cell 0
    have k1 : w2.cell? ⟨w.heap.size, 1, none⟩ = some (.slice none 0 0) := H2.out.1.cell 1
    have z0 := H2.out.1.frozen 0
    have z1 := H2.out.1.frozen 1
    generalize hq : (d.read i).2 = er at *
    have HQ := Lib.hid hq
    clear hq
    go_wp2
    refine slotV_ret (G := none) (cp := 0) rfl rfl (by show _ = Value.int .i64 (d.read i).2; rw [HQ.out]; rfl) ?_ ?_ (Sl.nil _ _) (fun ad h => by cases h)
    · have := (H2.out.1.set_ 0 (.int .i64 0)).set_ 1 (.slice none 0 0)
      simpa using this
    · exact (H2.out.2.setCell (p := ⟨w.heap.size, 0, none⟩) (Nat.le_refl _) _).setCell (p := ⟨w.heap.size, 1, none⟩) (Nat.le_refl _) _

set_option maxRecDepth 100000 in
theorem slots_read_none {w : World} {P : Value} (i : Int) (h : ∀ w', Below w.heap.size w w' → Calls Try.prog 10 #[P, .int .i64 i] w' fun e w'' => e = .returned (.tuple #[.slice none 0 0, .int .i64 1]) ∧ w' = w'') :
    Calls Try.prog 18 #[P, .int .i64 i] w (fun e w' => SlotV w w' (0, [], 1) e) := by
  go_enter Try.func18, Try.ntmps18
  go_wp2_with fail
  have b0 := Blk.new w 29 #[.int .i64 0, .slice none 0 0]
  have hb0 : Below w.heap.size w (w.alloc (.cells #[.int .i64 0, .slice none 0 0] 29)) := (Below.refl _ _).alloc (Nat.le_refl _) _
  have hr := h _ hb0
  generalize w.alloc (.cells #[.int .i64 0, .slice none 0 0] 29) = w1 at *
  refine hr.mono ?_
  rintro e w2 ⟨rfl, rfl⟩
  have H2 := Lib.hid (And.intro b0 hb0)
  have k0 : w1.cell? ⟨w.heap.size, 0, none⟩ = some (.int .i64 0) := b0.cell 0
  have k1 : w1.cell? ⟨w.heap.size, 1, none⟩ = some (.slice none 0 0) := b0.cell 1
  have z0 := b0.frozen 0
  have z1 := b0.frozen 1
  clear b0 hb0 hr h
  go_wp2
  refine slotV_ret (G := none) (cp := 0) rfl rfl rfl ?_ ?_ (Sl.nil _ _) (fun ad h => by cases h)
  · have := (H2.out.1.set_ 0 (.int .i64 0)).set_ 1 (.slice none 0 0)
    simpa using this
  · exact (H2.out.2.setCell (p := ⟨w.heap.size, 0, none⟩) (Nat.le_refl _) _).setCell (p := ⟨w.heap.size, 1, none⟩) (Nat.le_refl _) _
end Go.Proofs.Ytfcialmdediojaa
