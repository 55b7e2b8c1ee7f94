/-
  slots.Open.
-/
import Derived.Test.YtfcialmdediojaaSlotsB
namespace Go.Proofs.Ytfcialmdediojaa
set_option linter.unusedVariables false
set_option linter.unusedSimpArgs false
open Go.RowKit
def openOf (a b : Nat × List UInt8 × Int) : Option (Nat × Nat × List UInt8) × Int :=
  if a.2.2 ≠ 0 ∧ a.2.2 ≠ 110 then (none, a.2.2)
  else if b.2.2 ≠ 0 ∧ b.2.2 ≠ 110 then (none, b.2.2)
  else if a.2.2 = 110 ∨ b.2.2 = 110 ∨ (a.1 = b.1 ∧ 0 < a.1) then (none, 110)
  else if a.1 < b.1 then (some (b.1, 1, b.2.1), 0)
  else (some (a.1, 0, a.2.1), 0)
def openS (d : Dev) (first : Int) : Option (Nat × Nat × List UInt8) × Int := openOf (readS d first) (readS d (first + 1))
/-- the program's slots at block s: of the device at db -/
def SlotsB (w : World) (s db : Nat) (first : Int) (turn which : Nat) : Prop := ∃ A n k, Blk w s 31 #[.pointer (some ⟨db, 0, none⟩), .int .i64 first, .int .i64 (which : Int), .int .i64 (turn : Int), .slice A n k]
def OpenEnd (w : World) (db : Nat) (first : Int) (r : Option (Nat × Nat × List UInt8) × Int) (e : Ending) (w' : World) : Prop :=
  Below w.heap.size w w' ∧ match r with
  | (none, er) => e = .returned (.tuple #[.pointer none, .slice none 0 0, .int .i64 er])
  | (some (t, q, x), _) => ∃ s G cp, e = .returned (.tuple #[.pointer (some ⟨s, 0, none⟩), .slice G x.length cp, .int .i64 0]) ∧ SlotsB w' s db first t q ∧ w.heap.size ≤ s ∧ Sl w' G (bytesV x) ∧ ∀ ad, G = some ad → w.heap.size ≤ ad.block
theorem readS_small (d : Dev) (i : Int) : (readS d i).1 ≤ 9007199254740991 ∧ (readS d i).2.1.length ≤ 100 := by
  unfold readS
  split
  · simp
  · unfold slotOf
    split
    · rename_i h
      split at h
      · injection h with h; injection h with h1 h2; subst h1; subst h2; simp
      split at h
      · cases h
      split at h
      · injection h with h; injection h with h1 h2; subst h1; subst h2
        refine ⟨by omega, by rw [List.length_take]; omega⟩
      · cases h
    · simp
theorem readS_bad {d : Dev} {i : Int} (h : (readS d i).2.2 = 110) (hd : ∀ i, (d.read i).2 ≠ 110) : readS d i = (0, [], 110) := by
  unfold readS at h ⊢
  split
  · rename_i h1; rw [if_pos h1] at h; exact absurd h (hd i)
  · rename_i h1; rw [if_neg h1] at h
    split
    · rename_i h2; rw [h2] at h; cases h
    · rfl
theorem read_err (d : Dev) (i : Int) : (d.read i).2 = 0 ∨ (d.read i).2 = 9 ∨ (d.read i).2 = 100 := by
  unfold Dev.read
  split
  · exact .inl rfl
  · show d.at_ i = 0 ∨ d.at_ i = 9 ∨ d.at_ i = 100
    unfold Dev.at_
    split
    · exact .inr (.inr rfl)
    split
    · exact .inr (.inl rfl)
    · exact .inl rfl
theorem readS_err (d : Dev) (i : Int) : (readS d i).2.2 = 0 ∨ (readS d i).2.2 = 110 ∧ readS d i = (0, [], 110) ∨ ((readS d i).2.2 ≠ 0 ∧ (readS d i).2.2 ≠ 110) := by
  have hd : ∀ i, (d.read i).2 ≠ 110 := fun i => by rcases read_err d i with h | h | h <;> rw [h] <;> omega
  by_cases h0 : (readS d i).2.2 = 0
  · exact .inl h0
  by_cases h1 : (readS d i).2.2 = 110
  · exact .inr (.inl ⟨h1, readS_bad h1 hd⟩)
  · exact .inr (.inr ⟨h0, h1⟩)
/-- the two slots, as far as they are read -/
def Both (wr : World) (g : Nat) (base : Nat) (a b : Nat × List UInt8) : Prop := ∃ G0 p0 G1 p1, Blk wr g 53 #[.int .i64 (a.1 : Int), .slice G0 a.2.length p0, .int .i64 (b.1 : Int), .slice G1 b.2.length p1] ∧ Sl wr G0 (bytesV a.2) ∧ Sl wr G1 (bytesV b.2) ∧
  (∀ ad, G0 = some ad → base < ad.block) ∧ (∀ ad, G1 = some ad → base < ad.block)
theorem Both.put {w2 : World} {g : Nat} {a b : Nat × List UInt8} {G0 G1 G : Option Addr} {p0 p1 cp t : Nat} {x : List UInt8} (o : Obj) (j : Bool) 
    (hbl : Blk w2 g 53 #[.int .i64 (a.1 : Int), .slice G0 a.2.length p0, .int .i64 (b.1 : Int), .slice G1 b.2.length p1]) (s0 : Sl w2 G0 (bytesV a.2)) (s1 : Sl w2 G1 (bytesV b.2)) (h0 : ∀ ad, G0 = some ad → g < ad.block) (h1 : ∀ ad, G1 = some ad → g < ad.block)
    (s : Sl w2 G (bytesV x)) (h : ∀ ad, G = some ad → g < ad.block) :
    Both (((w2.setCell ⟨g, if j then 2 else 0, none⟩ (.int .i64 (t : Int))).setCell ⟨g, if j then 3 else 1, none⟩ (.slice G x.length cp)).alloc o) g g (if j then a else (t, x)) (if j then (t, x) else b) := by
  have hs : ∀ {A : Option Addr} {xs : List Value} (p q : Nat) (u v : Value), Sl w2 A xs → (∀ ad, A = some ad → g < ad.block) → Sl (((w2.setCell ⟨g, p, none⟩ u).setCell ⟨g, q, none⟩ v).alloc o) A xs := fun p q u v hS hA =>
    ((hS.setCell u (fun ad ha _ => Nat.ne_of_gt (hA ad ha))).setCell v (fun ad ha _ => Nat.ne_of_gt (hA ad ha))).alloc o
  have hb := (((hbl.set_ (if j then 2 else 0) (.int .i64 (t : Int))).set_ (if j then 3 else 1) (.slice G x.length cp)).alloc o)
  cases j
  · exact ⟨G, cp, G1, p1, by simpa using hb, hs _ _ _ _ s h, hs _ _ _ _ s1 h1, h, h1⟩
  · exact ⟨G0, p0, G, cp, by simpa using hb, hs _ _ _ _ s0 h0, hs _ _ _ _ s h, h0, h⟩
theorem Both.below {w2 w3 : World} {g : Nat} {a b : Nat × List UInt8} {G0 G1 : Option Addr} {p0 p1 : Nat} (hb : Below w2.heap.size w2 w3)
    (hbl : Blk w2 g 53 #[.int .i64 (a.1 : Int), .slice G0 a.2.length p0, .int .i64 (b.1 : Int), .slice G1 b.2.length p1]) (s0 : Sl w2 G0 (bytesV a.2)) (s1 : Sl w2 G1 (bytesV b.2)) (h0 : ∀ ad, G0 = some ad → g < ad.block) (h1 : ∀ ad, G1 = some ad → g < ad.block) : Both w3 g g a b :=
  ⟨G0, p0, G1, p1, hbl.below hb hbl.lt, s0.below hb (Nat.le_refl _), s1.below hb (Nat.le_refl _), h0, h1⟩
theorem openS_bad0 {d : Dev} {first er : Int} {t : Nat} {x : List UInt8} (h : readS d first = (t, x, er)) (h0 : er ≠ 0) (h1 : er ≠ 110) : openS d first = (none, er) := by
  unfold openS openOf; rw [h, if_pos ⟨h0, h1⟩]
theorem openS_bad1 {d : Dev} {first er : Int} {t : Nat} {x : List UInt8} (ha : (readS d first).2.2 = 0 ∨ (readS d first).2.2 = 110) (h : readS d (first + 1) = (t, x, er)) (h0 : er ≠ 0) (h1 : er ≠ 110) : openS d first = (none, er) := by
  unfold openS openOf; rw [h, if_neg (by omega), if_pos ⟨h0, h1⟩]
def OpenRel (w : World) (d : Dev) (first : Int) (y c : Value) (wr : World) : Prop := Below w.heap.size w wr ∧
  ((y = .int .i64 0 ∧ c = .bool false ∧ Both wr w.heap.size w.heap.size (0, []) (0, [])) ∨
   (y = .int .i64 1 ∧ ((readS d first).2.2 = 0 ∨ (readS d first).2.2 = 110) ∧ c = .bool ((readS d first).2.2 == 110) ∧ Both wr w.heap.size w.heap.size ((readS d first).1, (readS d first).2.1) (0, [])) ∨
   (y = .int .i64 2 ∧ ((readS d first).2.2 = 0 ∨ (readS d first).2.2 = 110) ∧ ((readS d (first + 1)).2.2 = 0 ∨ (readS d (first + 1)).2.2 = 110) ∧ c = .bool ((readS d first).2.2 == 110 || (readS d (first + 1)).2.2 == 110) ∧
    Both wr w.heap.size w.heap.size ((readS d first).1, (readS d first).2.1) ((readS d (first + 1)).1, (readS d (first + 1)).2.1)))
set_option maxRecDepth 100000 in
set_option maxHeartbeats 1600000 in
theorem slots_open {w : World} {col : Col} {c db : Nat} {d : Dev} (h : DevP w col c db d) (hp : Plain w col) (first : Int) (hf : -1000000 ≤ first ∧ first ≤ 1000000) :
    Calls Try.prog 8 #[.pointer (some ⟨db, 0, none⟩), .int .i64 first] w (OpenEnd w db first (openS d first)) := by
  have H := Lib.hid h
  clear h
  go_enter Try.func8, Try.ntmps8
  go_wp2
  go_loopw [13, 8] (fun y c wr => OpenRel w d first y c wr) (fun y _ _ => 2 - (intOf y).toNat)
  case atStart =>
    have b0 := Blk.new w 53 #[.int .i64 0, .slice none 0 0, .int .i64 0, .slice none 0 0]
    exact ⟨(Below.refl _ _).alloc (Nat.le_refl _) _, .inl ⟨rfl, rfl, none, 0, none, 0, b0, Sl.nil _ _, Sl.nil _ _, (fun ad h => by cases h), fun ad h => by cases h⟩⟩
  case round =>
    obtain ⟨hb, hcase⟩ := hrel
    have HB := Lib.hid hb
    have HD := Lib.hid (H.out.ext (.of_below hb hp) (C := fun _ => False) (fun h => h))
    clear hb
    rcases hcase with ⟨rfl, rfl, hbo⟩ | ⟨rfl, h0, rfl, hbo⟩ | ⟨rfl, h0, h1, rfl, hbo⟩
    · obtain ⟨G0, p0, G1, p1, hbl, hs0, hs1, hg0, hg1⟩ := hbo
      have HBO := Lib.hid (And.intro hbl (And.intro hs0 (And.intro hs1 (And.intro hg0 hg1))))
      have hlt0 := hbl.lt
      clear hbl hs0 hs1 hg0 hg1
      go_wp2_with fail
      refine (slots_read HD.out (hp.size_le HB.out.size) first).mono ?_
      rintro e w2 ⟨G, cp, rfl, hb2, hs2, hG2⟩
      have herr := readS_err d first
      generalize hA : readS d first = a at *
      obtain ⟨t, x, er⟩ := a
      have HA := Lib.hid hA
      clear hA
      simp only at herr hs2
      have HB2 := Lib.hid (And.intro (HBO.out.1.below hb2 hlt0) (And.intro (Below.trans' HB.out hb2 HB.out.size) (And.intro (HBO.out.2.1.below hb2 (Nat.le_refl _)) (And.intro (HBO.out.2.2.1.below hb2 (Nat.le_refl _)) (And.intro hs2 (fun ad ha => Nat.lt_of_lt_of_le hlt0 (hG2 ad ha)))))))
      have hlt2 : w.heap.size < w2.heap.size := HB2.out.1.lt
      clear hb2 hs2 hG2 hlt0
      have c0 : w2.cell? ⟨w.heap.size, 0, none⟩ = some (.int .i64 0) := HB2.out.1.cell 0
      have c1 : w2.cell? ⟨w.heap.size, 1, none⟩ = some (.slice G0 0 p0) := HB2.out.1.cell 1
      have z0 := HB2.out.1.frozen 0
      have z1 := HB2.out.1.frozen 1
      rcases herr with herr | ⟨herr, hall⟩ | ⟨he0, he1⟩
      · obtain rfl : er = 0 := herr
        go_wp2
        refine ⟨⟨((HB2.out.2.1.setCell (p := ⟨w.heap.size, 0, none⟩) (Nat.le_refl _) _).setCell (p := ⟨w.heap.size, 1, none⟩) (Nat.le_refl _) _).alloc (by simp; omega) _, .inr (.inl ⟨rfl, .inl (by rw [HA.out]), by rw [HA.out]; rfl, ?_⟩)⟩, by simp [intOf]⟩
        have := Both.put (t := t) (x := x) (cp := cp) (.cells #[.int .i64 (t : Int), .slice G x.length cp] 29) false (a := (0, [])) (b := (0, [])) HB2.out.1 HB2.out.2.2.1 HB2.out.2.2.2.1 HBO.out.2.2.2.1 HBO.out.2.2.2.2 HB2.out.2.2.2.2.1 HB2.out.2.2.2.2.2
        rw [HA.out]
        simpa using this
      · obtain rfl : er = 110 := herr
        injection hall with e1 e2; injection e2 with e2 e3; subst e1; subst e2
        go_wp2
        refine ⟨⟨HB2.out.2.1.alloc (Nat.le_of_lt hlt2) _, .inr (.inl ⟨rfl, .inr (by rw [HA.out]), by rw [HA.out]; rfl, ?_⟩)⟩, by simp [intOf]⟩
        have := Both.below (a := (0, [])) (b := (0, [])) ((Below.refl w2.heap.size w2).alloc (Nat.le_refl _) (.cells #[.int .i64 ((0 : Nat) : Int), .slice G ([] : List UInt8).length cp] 29)) HB2.out.1 HB2.out.2.2.1 HB2.out.2.2.2.1 HBO.out.2.2.2.1 HBO.out.2.2.2.2
        rw [HA.out]
        simpa using this
      · have hb0 : (er == 0) = false := by rw [beq_eq_false_iff_ne]; exact he0
        have hb1 : (er == 110) = false := by rw [beq_eq_false_iff_ne]; exact he1
        go_wp2
        go_ret3
        rw [openS_bad0 HA.out he0 he1]
        exact ⟨HB2.out.2.1.alloc (Nat.le_of_lt hlt2) _, rfl⟩
    · obtain ⟨G0, p0, G1, p1, hbl, hs0, hs1, hg0, hg1⟩ := hbo
      have HBO := Lib.hid (And.intro hbl (And.intro hs0 (And.intro hs1 (And.intro hg0 hg1))))
      have hlt0 := hbl.lt
      clear hbl hs0 hs1 hg0 hg1
      have H0 := Lib.hid h0
      clear h0
      generalize hcor : ((readS d first).2.2 == 110) = cor at *
      have HCOR := Lib.hid hcor
      clear hcor
      go_wp2_with fail
      refine (slots_read HD.out (hp.size_le HB.out.size) (first + 1)).mono ?_
      rintro e w2 ⟨G, cp, rfl, hb2, hs2, hG2⟩
      have herr := readS_err d (first + 1)
      generalize hA : readS d (first + 1) = a at *
      obtain ⟨t, x, er⟩ := a
      have HA := Lib.hid hA
      clear hA
      simp only at herr hs2
      have HB2 := Lib.hid (And.intro (HBO.out.1.below hb2 hlt0) (And.intro (Below.trans' HB.out hb2 HB.out.size) (And.intro (HBO.out.2.1.below hb2 (Nat.le_refl _)) (And.intro (HBO.out.2.2.1.below hb2 (Nat.le_refl _)) (And.intro hs2 (fun ad ha => Nat.lt_of_lt_of_le hlt0 (hG2 ad ha)))))))
      have hlt2 : w.heap.size < w2.heap.size := HB2.out.1.lt
      clear hb2 hs2 hG2 hlt0
      have c0 : w2.cell? ⟨w.heap.size, 2, none⟩ = some (.int .i64 0) := HB2.out.1.cell 2
      have c1 : w2.cell? ⟨w.heap.size, 3, none⟩ = some (.slice G1 0 p1) := HB2.out.1.cell 3
      have z0 := HB2.out.1.frozen 2
      have z1 := HB2.out.1.frozen 3
      rcases herr with herr | ⟨herr, hall⟩ | ⟨he0, he1⟩
      · obtain rfl : er = 0 := herr
        go_wp2
        refine ⟨⟨((HB2.out.2.1.setCell (p := ⟨w.heap.size, 2, none⟩) (Nat.le_refl _) _).setCell (p := ⟨w.heap.size, 3, none⟩) (Nat.le_refl _) _).alloc (by simp; omega) _, .inr (.inr ⟨rfl, H0.out, .inl (by rw [HA.out]), by rw [HA.out, HCOR.out]; simp, ?_⟩)⟩, by simp [intOf]⟩
        have := Both.put (t := t) (x := x) (cp := cp) (.cells #[.int .i64 (t : Int), .slice G x.length cp] 29) true (a := ((readS d first).1, (readS d first).2.1)) (b := (0, [])) HB2.out.1 HB2.out.2.2.1 HB2.out.2.2.2.1 HBO.out.2.2.2.1 HBO.out.2.2.2.2 HB2.out.2.2.2.2.1 HB2.out.2.2.2.2.2
        rw [HA.out]
        simpa using this
      · obtain rfl : er = 110 := herr
        injection hall with e1 e2; injection e2 with e2 e3; subst e1; subst e2
        go_wp2
        refine ⟨⟨HB2.out.2.1.alloc (Nat.le_of_lt hlt2) _, .inr (.inr ⟨rfl, H0.out, .inr (by rw [HA.out]), by rw [HA.out]; simp, ?_⟩)⟩, by simp [intOf]⟩
        have := Both.below (a := ((readS d first).1, (readS d first).2.1)) (b := (0, [])) ((Below.refl w2.heap.size w2).alloc (Nat.le_refl _) (.cells #[.int .i64 ((0 : Nat) : Int), .slice G ([] : List UInt8).length cp] 29)) HB2.out.1 HB2.out.2.2.1 HB2.out.2.2.2.1 HBO.out.2.2.2.1 HBO.out.2.2.2.2
        rw [HA.out]
        simpa using this
      · have hb0 : (er == 0) = false := by rw [beq_eq_false_iff_ne]; exact he0
        have hb1 : (er == 110) = false := by rw [beq_eq_false_iff_ne]; exact he1
        go_wp2
        go_ret3
        rw [openS_bad1 H0.out HA.out he0 he1]
        exact ⟨HB2.out.2.1.alloc (Nat.le_of_lt hlt2) _, rfl⟩
    · obtain ⟨G0, p0, G1, p1, hbl, hs0, hs1, hg0, hg1⟩ := hbo
      have hsm0 := readS_small d first
      have hsm1 := readS_small d (first + 1)
      have hos : openS d first = openOf (readS d first) (readS d (first + 1)) := rfl
      generalize readS d first = a at *
      generalize readS d (first + 1) = b at *
      obtain ⟨t0, x0, e0⟩ := a
      obtain ⟨t1, x1, e1⟩ := b
      simp only at *
      unfold openOf at hos
      simp only at hos
      rw [if_neg (by omega), if_neg (by omega)] at hos
      have HO := Lib.hid hos
      have HBO := Lib.hid (And.intro hbl (And.intro hs0 (And.intro hs1 (And.intro hg0 hg1))))
      have c0 : wr.cell? ⟨w.heap.size, 0, none⟩ = some (.int .i64 (t0 : Int)) := hbl.cell 0
      have c1 : wr.cell? ⟨w.heap.size, 1, none⟩ = some (.slice G0 x0.length p0) := hbl.cell 1
      have c2 : wr.cell? ⟨w.heap.size, 2, none⟩ = some (.int .i64 (t1 : Int)) := hbl.cell 2
      have c3 : wr.cell? ⟨w.heap.size, 3, none⟩ = some (.slice G1 x1.length p1) := hbl.cell 3
      have hlt0 := hbl.lt
      clear hbl hs0 hs1 hg0 hg1 hos
      by_cases hbad : e0 = 110 ∨ e1 = 110
      · have hcor : (e0 == 110 || e1 == 110) = true := by rcases hbad with h | h <;> simp [h]
        have HQ : Hid (openS d first = (none, 110)) := Lib.hid (by rw [HO.out, if_pos (by omega)])
        rw [hcor]
        clear hbad hcor h0 h1 HO
        go_wp2
        go_ret3
        rw [HQ.out]
        exact ⟨HB.out, rfl⟩
      · have hcor : (e0 == 110 || e1 == 110) = false := by simp; omega
        rw [hcor]
        obtain ⟨rfl, rfl⟩ : e0 = 0 ∧ e1 = 0 := by omega
        clear hbad hcor h0 h1
        by_cases heq : t0 = t1 ∧ 0 < t0
        · have HQ : Hid (openS d first = (none, 110)) := Lib.hid (by rw [HO.out, if_pos (by omega)])
          obtain ⟨rfl, hpos⟩ := heq
          have hp0 : decide ((0 : Int) < (t0 : Int)) = true := by simp; omega
          clear HO
          go_wp2
          go_ret3
          rw [HQ.out]
          exact ⟨HB.out, rfl⟩
        · have hne : ((t0 : Int) == (t1 : Int)) = false ∨ (t0 = 0 ∧ t1 = 0) := by
            by_cases h : t0 = t1
            · exact .inr (by omega)
            · exact .inl (by rw [beq_eq_false_iff_ne]; omega)
          have HQ : Hid (openS d first = if t0 < t1 then (some (t1, 1, x1), 0) else (some (t0, 0, x0), 0)) := Lib.hid (by rw [HO.out, if_neg (by omega)])
          clear HO heq
          by_cases hlt : t0 < t1
          · rw [if_pos hlt] at HQ
            have b1 : ((t0 : Int) == (t1 : Int)) = false := by rw [beq_eq_false_iff_ne]; omega
            clear hne
            go_wp2_with fail
            have hsl := HBO.out.2.2.1.alloc (.cells #[.pointer (some ⟨db, 0, none⟩), .int .i64 first, .int .i64 1, .int .i64 (t1 : Int), .slice G1 x1.length p1] 31)
            have hbs := Blk.new wr 31 #[.pointer (some ⟨db, 0, none⟩), .int .i64 first, .int .i64 1, .int .i64 (t1 : Int), .slice G1 x1.length p1]
            have hbe : Below w.heap.size w (wr.alloc (.cells #[.pointer (some ⟨db, 0, none⟩), .int .i64 first, .int .i64 1, .int .i64 (t1 : Int), .slice G1 x1.length p1] 31)) := HB.out.alloc (Nat.le_of_lt hlt0) _
            generalize wr.alloc (.cells #[.pointer (some ⟨db, 0, none⟩), .int .i64 first, .int .i64 1, .int .i64 (t1 : Int), .slice G1 x1.length p1] 31) = w3 at *
            refine (bytes_clone hsl p1 (by omega)).mono ?_
            rintro e w4 ⟨v, rfl, hown, hb4⟩
            obtain ⟨G, cp, rfl, hG, hcp, -, hGb⟩ := slice_of_own hown
            rw [bytesV_len] at hcp ⊢
            have HF : Hid (OpenEnd w db first (openS d first) (.returned (.tuple #[.pointer (some ⟨wr.heap.size, 0, none⟩), .slice G x1.length cp, .int .i64 0])) w4) := by
              refine ⟨Below.trans' hbe hb4 hbe.size, ?_⟩
              rw [HQ.out]
              exact ⟨wr.heap.size, G, cp, rfl, ⟨_, _, _, hbs.below hb4 hbs.lt⟩, Nat.le_of_lt hlt0, hG, fun ad ha => Nat.le_trans hbe.size (hGb ad ha)⟩
            clear hown hb4 hG hGb hsl hbs hbe
            go_wp2
            go_ret3
            exact HF.out
          · rw [if_neg hlt] at HQ
            rcases hne with b1 | ⟨rfl, rfl⟩
            · go_wp2_with fail
              have hsl := HBO.out.2.1.alloc (.cells #[.pointer (some ⟨db, 0, none⟩), .int .i64 first, .int .i64 0, .int .i64 (t0 : Int), .slice G0 x0.length p0] 31)
              have hbs := Blk.new wr 31 #[.pointer (some ⟨db, 0, none⟩), .int .i64 first, .int .i64 0, .int .i64 (t0 : Int), .slice G0 x0.length p0]
              have hbe : Below w.heap.size w (wr.alloc (.cells #[.pointer (some ⟨db, 0, none⟩), .int .i64 first, .int .i64 0, .int .i64 (t0 : Int), .slice G0 x0.length p0] 31)) := HB.out.alloc (Nat.le_of_lt hlt0) _
              generalize wr.alloc (.cells #[.pointer (some ⟨db, 0, none⟩), .int .i64 first, .int .i64 0, .int .i64 (t0 : Int), .slice G0 x0.length p0] 31) = w3 at *
              refine (bytes_clone hsl p0 (by omega)).mono ?_
              rintro e w4 ⟨v, rfl, hown, hb4⟩
              obtain ⟨G, cp, rfl, hG, hcp, -, hGb⟩ := slice_of_own hown
              rw [bytesV_len] at hcp ⊢
              have HF : Hid (OpenEnd w db first (openS d first) (.returned (.tuple #[.pointer (some ⟨wr.heap.size, 0, none⟩), .slice G x0.length cp, .int .i64 0])) w4) := by
                refine ⟨Below.trans' hbe hb4 hbe.size, ?_⟩
                rw [HQ.out]
                exact ⟨wr.heap.size, G, cp, rfl, ⟨_, _, _, hbs.below hb4 hbs.lt⟩, Nat.le_of_lt hlt0, hG, fun ad ha => Nat.le_trans hbe.size (hGb ad ha)⟩
              clear hown hb4 hG hGb hsl hbs hbe
              go_wp2
              go_ret3
              exact HF.out
            · go_wp2_with fail
              have hsl := HBO.out.2.1.alloc (.cells #[.pointer (some ⟨db, 0, none⟩), .int .i64 first, .int .i64 0, .int .i64 0, .slice G0 x0.length p0] 31)
              have hbs := Blk.new wr 31 #[.pointer (some ⟨db, 0, none⟩), .int .i64 first, .int .i64 0, .int .i64 0, .slice G0 x0.length p0]
              have hbe : Below w.heap.size w (wr.alloc (.cells #[.pointer (some ⟨db, 0, none⟩), .int .i64 first, .int .i64 0, .int .i64 0, .slice G0 x0.length p0] 31)) := HB.out.alloc (Nat.le_of_lt hlt0) _
              generalize wr.alloc (.cells #[.pointer (some ⟨db, 0, none⟩), .int .i64 first, .int .i64 0, .int .i64 0, .slice G0 x0.length p0] 31) = w3 at *
              refine (bytes_clone hsl p0 (by omega)).mono ?_
              rintro e w4 ⟨v, rfl, hown, hb4⟩
              obtain ⟨G, cp, rfl, hG, hcp, -, hGb⟩ := slice_of_own hown
              rw [bytesV_len] at hcp ⊢
              have HF : Hid (OpenEnd w db first (openS d first) (.returned (.tuple #[.pointer (some ⟨wr.heap.size, 0, none⟩), .slice G x0.length cp, .int .i64 0])) w4) := by
                refine ⟨Below.trans' hbe hb4 hbe.size, ?_⟩
                rw [HQ.out]
                exact ⟨wr.heap.size, G, cp, rfl, ⟨_, _, _, hbs.below hb4 hbs.lt⟩, Nat.le_of_lt hlt0, hG, fun ad ha => Nat.le_trans hbe.size (hGb ad ha)⟩
              clear hown hb4 hG hGb hsl hbs hbe
              go_wp2
              go_ret3
              exact HF.out
end Go.Proofs.Ytfcialmdediojaa
