/- plain law: no program stands here -/
namespace Go.Proofs.Ytfcialmdediojaa
set_option linter.unusedVariables false
set_option linter.unusedSimpArgs false
/-- a sector: what it has, what is sure, was it written since the last flush? -/
structure Sec where
  now : List UInt8
  sure : List UInt8
  wr : Bool
/-- a device -/
structure Dev where
  l : List Sec
  left : Int
  keep : List Int
  til : Int
  done : Int
  dead : Bool
def zeros (n : Nat) : List UInt8 := List.replicate n 0
def Sec.zero : Sec := ⟨zeros 128, zeros 128, false⟩
def Dev.new (n : Nat) : Dev := ⟨List.replicate n Sec.zero, -1, [], -1, 0, false⟩
def Sec.lost (keep : List Int) (k : Nat) (s : Sec) : List UInt8 := if (keep.getD k 0) % 2 = 0 then s.sure else s.now
def goneL (keep : List Int) : Nat → List Sec → List Sec
  | _, [] => []
  | k, s :: r => if s.wr then ⟨s.lost keep k, s.lost keep k, false⟩ :: goneL keep (k + 1) r else ⟨s.now, s.now, false⟩ :: goneL keep k r
def Dev.gone (d : Dev) (keep : List Int) : Dev := { d with l := goneL keep 0 d.l, dead := true, left := -1, til := -1 }
/-- the wrap of an int -/
def wrapI (x : Int) : Int := (x + 9223372036854775808) % 18446744073709551616 - 9223372036854775808
def Dev.worked (d : Dev) (mid fin : List Sec → List Sec) : Dev × Int :=
  if d.til = 0 then (d, 101)
  else if d.left = 0 then (({ d with l := mid d.l }).gone d.keep, 100)
  else ({ d with l := fin (mid d.l), done := wrapI (d.done + 1), left := max (d.left - 1) (-1), til := max (d.til - 1) (-1) }, 0)
def Sec.put (b : List UInt8) (s : Sec) : Sec := { s with now := b, wr := true }
def Sec.flush (s : Sec) : Sec := ⟨s.now, s.now, false⟩
/-- what is wrong at a sector -/
def Dev.at_ (d : Dev) (i : Int) : Int := if d.dead then 100 else if i < 0 ∨ (d.l.length : Int) ≤ i then 9 else 0
def Dev.read (d : Dev) (i : Int) : List UInt8 × Int := if d.at_ i = 0 then ((d.l.getD i.toNat Sec.zero).now, 0) else ([], d.at_ i)
def Dev.write (d : Dev) (i : Int) (b : List UInt8) : Dev × Int :=
  if d.at_ i ≠ 0 then (d, d.at_ i) else if b.length ≠ 128 then (d, 2) else d.worked (fun l => l.modify i.toNat (Sec.put b)) id
def Dev.flush (d : Dev) : Dev × Int := if d.dead then (d, 100) else d.worked id (·.map Sec.flush)
def Dev.crash (d : Dev) (keep : List Int) : Dev × Int := if d.dead then (d, 100) else (d.gone keep, 0)
def Dev.fail (d : Dev) (n : Int) (keep : List Int) : Dev × Int := if d.dead then (d, 100) else ({ d with left := max n (-1), keep := keep }, 0)
def Dev.refuse (d : Dev) (n : Int) : Dev × Int := if d.dead then (d, 100) else ({ d with til := max n (-1) }, 0)
def Dev.boot (d : Dev) : Dev := { d with dead := false }
/-- what holds of a device -/
structure Dev.OK (d : Dev) : Prop where
  now : ∀ s ∈ d.l, s.now.length = 128
  sure : ∀ s ∈ d.l, s.sure.length = 128
  same : ∀ s ∈ d.l, s.wr = false → s.sure = s.now
  few : d.l.length ≤ 8192
  pos : 1 ≤ d.l.length
  left : -1 ≤ d.left ∧ d.left ≤ 9223372036854775807
  til : -1 ≤ d.til ∧ d.til ≤ 9223372036854775807
  done : -9223372036854775808 ≤ d.done ∧ d.done ≤ 9223372036854775807
  keep : ∀ x ∈ d.keep, -9223372036854775808 ≤ x ∧ x ≤ 9223372036854775807

theorem goneL_len (keep : List Int) : ∀ (k : Nat) (l : List Sec), (goneL keep k l).length = l.length
  | _, [] => rfl
  | k, s :: r => by unfold goneL; split <;> simp [goneL_len keep]
theorem goneL_all (keep : List Int) (P : List UInt8 → Prop) : ∀ (k : Nat) (l : List Sec), (∀ s ∈ l, P s.now ∧ P s.sure) → ∀ s ∈ goneL keep k l, P s.now ∧ s.sure = s.now ∧ s.wr = false
  | _, [], _, s, hs => by cases hs
  | k, s :: r, h, t, ht => by
    have hh := h s (List.mem_cons_self ..)
    have ih := fun k => goneL_all keep P k r (fun t ht => h t (List.mem_cons_of_mem _ ht)) t
    unfold goneL at ht
    split at ht
    · rcases List.mem_cons.1 ht with rfl | ht
      · refine ⟨?_, rfl, rfl⟩
        show P (s.lost keep k)
        unfold Sec.lost; split
        · exact hh.2
        · exact hh.1
      · exact ih _ ht
    · rcases List.mem_cons.1 ht with rfl | ht
      · exact ⟨hh.1, rfl, rfl⟩
      · exact ih _ ht
theorem Dev.OK.gone {d : Dev} (h : d.OK) (keep : List Int) : (d.gone keep).OK := by
  have hall := goneL_all keep (fun b => b.length = 128) 0 d.l (fun s hs => ⟨h.now s hs, h.sure s hs⟩)
  refine ⟨fun s hs => (hall s hs).1, fun s hs => ?_, fun s hs _ => (hall s hs).2.1, ?_, ?_, ⟨by simp [Dev.gone], by simp [Dev.gone]⟩, ⟨by simp [Dev.gone], by simp [Dev.gone]⟩, h.done, h.keep⟩
  · rw [(hall s hs).2.1]; exact (hall s hs).1
  · simpa [Dev.gone, goneL_len] using h.few
  · simpa [Dev.gone, goneL_len] using h.pos
theorem wrapI_in (x : Int) : -9223372036854775808 ≤ wrapI x ∧ wrapI x ≤ 9223372036854775807 := by unfold wrapI; omega
theorem Dev.OK.new {n : Nat} (h1 : 1 ≤ n) (h2 : n ≤ 8192) : (Dev.new n).OK := by
  have hz : ∀ s ∈ (Dev.new n).l, s = Sec.zero := fun s hs => (List.mem_replicate.1 hs).2
  refine ⟨fun s hs => ?_, fun s hs => ?_, fun s hs _ => ?_, by simpa [Dev.new] using h2, by simpa [Dev.new] using h1, by simp [Dev.new], by simp [Dev.new], by simp [Dev.new], by simp [Dev.new]⟩
  all_goals rw [hz s hs]; simp [Sec.zero, zeros]
/-- a work keeps it, if its parts do -/
theorem Dev.OK.worked {d : Dev} (h : d.OK) {mid fin : List Sec → List Sec}
    (hm : (mid d.l).length = d.l.length ∧ ∀ s ∈ mid d.l, s.now.length = 128 ∧ s.sure.length = 128 ∧ (s.wr = false → s.sure = s.now))
    (hf : (fin (mid d.l)).length = d.l.length ∧ ∀ s ∈ fin (mid d.l), s.now.length = 128 ∧ s.sure.length = 128 ∧ (s.wr = false → s.sure = s.now)) : (d.worked mid fin).1.OK := by
  unfold Dev.worked
  split
  · exact h
  split
  · have h2 : ({ d with l := mid d.l } : Dev).OK :=
      ⟨fun s hs => (hm.2 s hs).1, fun s hs => (hm.2 s hs).2.1, fun s hs => (hm.2 s hs).2.2, by show (mid d.l).length ≤ _; rw [hm.1]; exact h.few, by show _ ≤ (mid d.l).length; rw [hm.1]; exact h.pos, h.left, h.til, h.done, h.keep⟩
    exact h2.gone _
  · have hl := h.left; have ht := h.til
    exact ⟨fun s hs => (hf.2 s hs).1, fun s hs => (hf.2 s hs).2.1, fun s hs => (hf.2 s hs).2.2, by show (fin (mid d.l)).length ≤ _; rw [hf.1]; exact h.few, by show _ ≤ (fin (mid d.l)).length; rw [hf.1]; exact h.pos,
      ⟨by show _ ≤ max _ _; omega, by show max _ _ ≤ _; omega⟩, ⟨by show _ ≤ max _ _; omega, by show max _ _ ≤ _; omega⟩, wrapI_in _, h.keep⟩
theorem put_all {d : Dev} (h : d.OK) {b : List UInt8} (hb : b.length = 128) (i : Nat) :
    (d.l.modify i (Sec.put b)).length = d.l.length ∧ ∀ s ∈ d.l.modify i (Sec.put b), s.now.length = 128 ∧ s.sure.length = 128 ∧ (s.wr = false → s.sure = s.now) := by
  refine ⟨by simp, fun s hs => ?_⟩
  obtain ⟨j, hj, rfl⟩ := List.getElem_of_mem hs
  rw [List.getElem_modify]
  have hj' : j < d.l.length := by simpa using hj
  have hm : d.l[j] ∈ d.l := List.getElem_mem hj'
  split
  · exact ⟨hb, h.sure d.l[j] hm, fun h => by cases h⟩
  · exact ⟨h.now _ hm, h.sure _ hm, h.same _ hm⟩
theorem Dev.OK.write {d : Dev} (h : d.OK) (i : Int) (b : List UInt8) : (d.write i b).1.OK := by
  unfold Dev.write
  split
  · exact h
  split
  · exact h
  · rename_i hb
    have hp := put_all h (b := b) (by omega) i.toNat
    exact h.worked hp (by simpa using hp)
theorem Dev.OK.flush {d : Dev} (h : d.OK) : d.flush.1.OK := by
  unfold Dev.flush
  split
  · exact h
  · refine h.worked ⟨rfl, fun s hs => ⟨h.now s hs, h.sure s hs, h.same s hs⟩⟩ ⟨by simp, fun s hs => ?_⟩
    obtain ⟨t, ht, rfl⟩ := List.mem_map.1 hs
    exact ⟨h.now t ht, h.now t ht, fun _ => rfl⟩
theorem Dev.OK.crash {d : Dev} (h : d.OK) (keep : List Int) : (d.crash keep).1.OK := by
  unfold Dev.crash; split
  · exact h
  · exact h.gone _
theorem Dev.OK.fail {d : Dev} (h : d.OK) {n : Int} (hn : n ≤ 9223372036854775807) {keep : List Int} (hk : ∀ x ∈ keep, -9223372036854775808 ≤ x ∧ x ≤ 9223372036854775807) : (d.fail n keep).1.OK := by
  unfold Dev.fail; split
  · exact h
  · exact ⟨h.now, h.sure, h.same, h.few, h.pos, ⟨by show _ ≤ max _ _; omega, by show max _ _ ≤ _; omega⟩, h.til, h.done, hk⟩
theorem Dev.OK.refuse {d : Dev} (h : d.OK) {n : Int} (hn : n ≤ 9223372036854775807) : (d.refuse n).1.OK := by
  unfold Dev.refuse; split
  · exact h
  · exact ⟨h.now, h.sure, h.same, h.few, h.pos, h.left, ⟨by show _ ≤ max _ _; omega, by show max _ _ ≤ _; omega⟩, h.done, h.keep⟩
theorem Dev.OK.boot {d : Dev} (h : d.OK) : d.boot.OK := ⟨h.now, h.sure, h.same, h.few, h.pos, h.left, h.til, h.done, h.keep⟩
/-! ### the power goes: sector by sector -/
def writtenFrom : Nat → List Sec → List Nat
  | _, [] => []
  | o, s :: r => if s.wr then o :: writtenFrom (o + 1) r else writtenFrom (o + 1) r
def lostAt (keep : List Int) (l : List Sec) (k i : Nat) : List Sec := l.modify i fun s => { s with now := s.lost keep k }
def lostSteps (keep : List Int) : List Nat → Nat → List Sec → List Sec
  | [], _, l => l
  | i :: r, k, l => lostSteps keep r (k + 1) (lostAt keep l k i)
theorem lostSteps_snoc (keep : List Int) (i : Nat) : ∀ (xs : List Nat) (k : Nat) (l : List Sec), lostSteps keep (xs ++ [i]) k l = lostAt keep (lostSteps keep xs k l) (k + xs.length) i
  | [], k, l => rfl
  | x :: xs, k, l => by
    show lostSteps keep (xs ++ [i]) (k + 1) _ = lostAt keep (lostSteps keep xs (k + 1) _) _ _
    rw [lostSteps_snoc keep i xs, List.length_cons, show k + 1 + xs.length = k + (xs.length + 1) from by omega]
theorem lostSteps_now (keep : List Int) : ∀ (l pre : List Sec) (k : Nat), (lostSteps keep (writtenFrom pre.length l) k (pre ++ l)).map Sec.now = pre.map Sec.now ++ (goneL keep k l).map Sec.now
  | [], pre, k => by simp [writtenFrom, lostSteps, goneL]
  | s :: r, pre, k => by
    unfold writtenFrom goneL
    split
    · have e : lostAt keep (pre ++ s :: r) k pre.length = (pre ++ [{ s with now := s.lost keep k }]) ++ r := by
        unfold lostAt
        apply List.ext_getElem?
        intro j
        rw [List.getElem?_modify]
        by_cases hj : j < pre.length
        · rw [List.getElem?_append_left hj, List.append_assoc, List.getElem?_append_left hj]
          cases pre[j]? <;> simp
          intro e; omega
        · rw [List.getElem?_append_right (by omega), List.append_assoc, List.getElem?_append_right (by omega)]
          by_cases hj2 : j = pre.length
          · subst hj2; simp
          · rw [show j - pre.length = (j - pre.length - 1) + 1 from by omega]
            simp
            cases r[j - pre.length - 1]? <;> simp
            intro e; omega
      show (lostSteps keep (writtenFrom (pre.length + 1) r) (k + 1) (lostAt keep (pre ++ s :: r) k pre.length)).map _ = _
      rw [e]
      have ih := lostSteps_now keep r (pre ++ [{ s with now := s.lost keep k }]) (k + 1)
      rw [List.length_append, List.length_singleton] at ih
      rw [ih]; simp
    · have e : pre ++ s :: r = (pre ++ [s]) ++ r := by simp
      rw [e]
      have ih := lostSteps_now keep r (pre ++ [s]) k
      rw [List.length_append, List.length_singleton] at ih
      rw [ih]; simp
theorem mem_writtenFrom : ∀ (l : List Sec) (o x : Nat), x ∈ writtenFrom o l ↔ o ≤ x ∧ ∃ s, l[x - o]? = some s ∧ s.wr = true
  | [], o, x => by simp [writtenFrom]
  | s :: r, o, x => by
    have ih := mem_writtenFrom r (o + 1) x
    have hcase : (o ≤ x ∧ ∃ t, (s :: r)[x - o]? = some t ∧ t.wr = true) ↔ (x = o ∧ s.wr = true) ∨ (o + 1 ≤ x ∧ ∃ t, r[x - (o + 1)]? = some t ∧ t.wr = true) := by
      constructor
      · rintro ⟨h1, t, h2, h3⟩
        by_cases hx : x = o
        · subst hx; simp at h2; subst h2; exact .inl ⟨rfl, h3⟩
        · rw [show x - o = (x - (o + 1)) + 1 from by omega, List.getElem?_cons_succ] at h2
          exact .inr ⟨by omega, t, h2, h3⟩
      · rintro (⟨rfl, h⟩ | ⟨h1, t, h2, h3⟩)
        · exact ⟨Nat.le_refl _, s, by simp, h⟩
        · exact ⟨by omega, t, by rw [show x - o = (x - (o + 1)) + 1 from by omega, List.getElem?_cons_succ]; exact h2, h3⟩
    rw [hcase]
    unfold writtenFrom
    split
    · rename_i hs
      rw [List.mem_cons, ih]; simp [hs]
    · rename_i hs
      rw [ih]; simp [hs]
theorem written_rising : ∀ (l : List Sec) (o : Nat), (writtenFrom o l).Pairwise (· < ·)
  | [], _ => List.Pairwise.nil
  | s :: r, o => by
    unfold writtenFrom
    split
    · exact List.Pairwise.cons (fun x hx => by have := ((mem_writtenFrom r (o + 1) x).1 hx).1; omega) (written_rising r (o + 1))
    · exact written_rising r (o + 1)
theorem written_len : ∀ (l : List Sec) (o : Nat), (writtenFrom o l).length ≤ l.length
  | [], _ => Nat.le_refl _
  | s :: r, o => by
    have := written_len r (o + 1)
    unfold writtenFrom
    split <;> simp <;> omega
theorem lostSteps_get (keep : List Int) : ∀ (xs : List Nat) (k : Nat) (l : List Sec) (i : Nat), i ∉ xs → (lostSteps keep xs k l)[i]? = l[i]?
  | [], _, _, _, _ => rfl
  | x :: xs, k, l, i, h => by
    show (lostSteps keep xs (k + 1) (lostAt keep l k x))[i]? = _
    rw [lostSteps_get keep xs _ _ i (fun hh => h (List.mem_cons_of_mem _ hh))]
    unfold lostAt
    rw [List.getElem?_modify]
    cases l[i]? <;> simp
    intro e; exact absurd (by simp [e]) h
theorem lostSteps_len (keep : List Int) : ∀ (xs : List Nat) (k : Nat) (l : List Sec), (lostSteps keep xs k l).length = l.length
  | [], _, _ => rfl
  | x :: xs, k, l => by
    show (lostSteps keep xs (k + 1) (lostAt keep l k x)).length = _
    rw [lostSteps_len keep xs]; simp [lostAt]
theorem lost_all {keep : List Int} : ∀ (xs : List Nat) (k : Nat) {l : List Sec}, (∀ s ∈ l, s.now.length = 128) → (∀ s ∈ l, s.sure.length = 128) → ∀ s ∈ lostSteps keep xs k l, s.now.length = 128
  | [], _, _, h, _ => h
  | x :: xs, k, l, h, h2 => by
    refine lost_all xs (k + 1) (l := lostAt keep l k x) (fun s hs => ?_) (fun s hs => ?_)
    all_goals
      obtain ⟨j, hj, rfl⟩ := List.getElem_of_mem hs
      unfold lostAt at hj ⊢
      rw [List.getElem_modify]
      have hj' : j < l.length := by simpa using hj
      have hm : l[j] ∈ l := List.getElem_mem hj'
      split
    · show (l[j].lost keep k).length = 128
      unfold Sec.lost; split
      · exact h2 _ hm
      · exact h _ hm
    · exact h _ hm
    · exact h2 l[j] hm
    · exact h2 _ hm
end Go.Proofs.Ytfcialmdediojaa
