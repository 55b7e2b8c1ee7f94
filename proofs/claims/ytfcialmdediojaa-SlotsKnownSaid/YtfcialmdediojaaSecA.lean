/-
  The program's device (package sector): what its memory is, and what its small functions do.
-/
import Derived.Test.YtfcialmdediojaaProg
import Derived.Test.YtfcialmdediojaaBase
import Derived.Test.YtfcialmdediojaaSecV
namespace Go.Proofs.Ytfcialmdediojaa
set_option linter.unusedVariables false
set_option linter.unusedSimpArgs false
open Go.RowKit

/-! ### closed facts of the types -/
theorem qEqMap (w : World) (r : Option Nat) : (binOp .eql 38 (.map r) (.map none)).run Try.prog w = .ok (.bool r.isNone) w := run_eql_map_nil w _ _ _ r Try.underlying38
theorem qEqBytes (w : World) (a : Option Addr) (n c n' c' : Nat) : (binOp .eql 27 (.slice a n c) (.slice none n' c')).run Try.prog w = .ok (.bool a.isNone) w := Lib.run_eql_slice_nil w _ _ a n c n' c' Try.underlying27
theorem qEqInts (w : World) (a : Option Addr) (n c n' c' : Nat) : (binOp .eql 39 (.slice a n c) (.slice none n' c')).run Try.prog w = .ok (.bool a.isNone) w := Lib.run_eql_slice_nil w _ _ a n c n' c' Try.underlying39
theorem keyedInt : Go.Maps.Keyed Try.prog 3 := Go.Maps.int_keyed Try.underlying3

/-! ### a block of the map, as a datum -/
def datB (cs : List Value) : DataW Unit := .agg (cs.map fun v => match v with | .int k n => .lit (.int k n) | _ => .nil)
def blkR (v : Value) : Option (DataW Unit × List MemPlace) := match v with | .agg cs => some (datB cs.toList, []) | _ => none
theorem datB_inv : ∀ (cs : List Value) (l : List UInt8), datB cs = datB (bytesV l) → cs = bytesV l := by
  intro cs l h
  unfold datB at h
  injection h with h
  induction cs generalizing l with
  | nil => cases l with
    | nil => rfl
    | cons c l => simp [bytesV] at h
  | cons v cs ih => cases l with
    | nil => simp [bytesV] at h
    | cons c l =>
      simp only [bytesV, List.map_cons, List.cons.injEq] at h ⊢
      refine ⟨?_, ih l (by simpa [bytesV] using h.2)⟩
      have h1 := h.1
      cases v <;> simp [byteV] at h1 ⊢
      exact h1
def keyZ (i : Nat) : Lit := .int .i64 (i : Int)
/-- the map holds what is sure of the sectors that were written -/
structure MapIs (D : DataW Unit) (l : List Sec) : Prop where
  has : ∀ i (h : i < l.length), Go.Maps.has D (keyZ i) = l[i].wr
  at_ : ∀ i (h : i < l.length), l[i].wr = true → ∀ z, D.atKey (keyZ i) z = datB (bytesV l[i].sure)
  only : ∀ k, Go.Maps.has D k = true → ∃ i, i < l.length ∧ k = keyZ i
  count : Go.Maps.size D = l.countP Sec.wr
theorem MapIs.size {D : DataW Unit} {l : List Sec} (h : MapIs D l) : Go.Maps.size D ≤ l.length := by rw [h.count]; exact List.countP_le_length

theorem MapIs.none {l : List Sec} (h : ∀ s ∈ l, s.wr = false) : MapIs (.map []) l :=
  ⟨fun i hi => by rw [h _ (List.getElem_mem hi)]; rfl, fun i hi hw => (by rw [h _ (List.getElem_mem hi)] at hw; cases hw), fun k hk => (by cases hk), by rw [List.countP_eq_zero.2 (fun s hs => by rw [h s hs]; decide)]; rfl⟩
/-- the memory of a device at block b -/
structure DevB (w : World) (b bs bm : Nat) (kA : Option Addr) (kc : Nat) (D : DataW Unit) (d : Dev) : Prop where
  hd : Blk w b 41 #[.slice (some ⟨bs, 0, none⟩) d.l.length d.l.length, .map (some bm), .int .i64 d.left, .slice kA d.keep.length kc, .int .i64 d.til, .int .i64 d.done, .bool d.dead]
  sec : Blk w bs 67 (secV d.l).toArray
  map : w.ownsMap Try.prog 3 blkR bm (Go.Maps.size D) D
  is : MapIs D d.l
  keep : Sl w kA (d.keep.map intV)
  cap : d.keep.length ≤ kc
  kne : ∀ ad, kA = some ad → 0 < d.keep.length → ad.block ≠ b ∧ ad.block ≠ bs ∧ ad.block ≠ bm
  ok : d.OK
/-- .. of the colour c -/
structure DevC (col : Col) (c b bs bm : Nat) (kA : Option Addr) (n : Nat) : Prop where
  b : col b = c
  bs : col bs = c
  bm : col bm = c
  kA : SlCol col c kA n
def DevP (w : World) (col : Col) (c b : Nat) (d : Dev) : Prop := ∃ bs bm kA kc D, DevB w b bs bm kA kc D d ∧ DevC col c b bs bm kA d.keep.length
theorem DevB.ext {w w' : World} {col col' : Col} {C : Nat → Prop} {b bs bm kc c : Nat} {kA : Option Addr} {D : DataW Unit} {d : Dev} (h : DevB w b bs bm kA kc D d) (k : DevC col c b bs bm kA d.keep.length)
    (he : Ext C w col w' col') (hc : ¬ C c) : DevB w' b bs bm kA kc D d ∧ DevC col' c b bs bm kA d.keep.length := by
  have hm := h.map
  refine ⟨⟨h.hd.ext he (by rw [k.b]; exact hc), h.sec.ext he (by rw [k.bs]; exact hc), ?_, h.is, h.keep.ext he (c := c) (by simpa using k.kA) hc, h.cap, h.kne, h.ok⟩,
    (he.same _ h.hd.lt).trans k.b, (he.same _ h.sec.lt).trans k.bs, (he.same _ hm.lt).trans k.bm, k.kA.ext he (fun ad ha hn => h.keep.lt ad ha (by simpa using hn))⟩
  obtain ⟨es, clock, hb, F, hs, hD⟩ := hm
  exact ⟨es, clock, (he.block bm (Array.getElem?_eq_some_iff.1 hb).1 (by rw [k.bm]; exact hc)).trans hb, F, hs, hD⟩
theorem DevP.ext {w w' : World} {col col' : Col} {C : Nat → Prop} {c b : Nat} {d : Dev} (h : DevP w col c b d) (he : Ext C w col w' col') (hc : ¬ C c) : DevP w' col' c b d := by
  obtain ⟨bs, bm, kA, kc, D, h, k⟩ := h
  exact ⟨bs, bm, kA, kc, D, h.ext k he hc⟩
/-- only the head has turned -/
theorem DevB.head {w w' : World} {b bs bm kc : Nat} {kA : Option Addr} {D : DataW Unit} {d d' : Dev} (h : DevB w b bs bm kA kc D d) (hb : Blk w' b 41 #[.slice (some ⟨bs, 0, none⟩) d'.l.length d'.l.length, .map (some bm), .int .i64 d'.left, .slice kA d'.keep.length kc, .int .i64 d'.til, .int .i64 d'.done, .bool d'.dead])
    (hoth : ∀ q, q ≠ b → w'.heap[q]? = w.heap[q]?) (hs : w.heap.size ≤ w'.heap.size) (hl : d'.l = d.l) (hk : d'.keep = d.keep) (hok : d'.OK) (hbb : b ≠ bs) (hmb : bm ≠ b) : DevB w' b bs bm kA kc D d' := by
  refine ⟨hb, by rw [hl]; exact h.sec.of (hoth bs (Ne.symm hbb)), ?_, by rw [hl]; exact h.is, fun hn => ?_, by rw [hk]; exact h.cap, by rw [hk]; exact h.kne, hok⟩
  · obtain ⟨es, clock, hm, F, hz, hD⟩ := h.map
    exact ⟨es, clock, (hoth bm hmb).trans hm, F, hz, hD⟩
  · rw [hk] at hn
    obtain ⟨g, o, e, hg, hc⟩ := h.keep hn
    have hkn := h.kne _ e (by simpa using hn)
    refine ⟨g, o, e, by omega, fun j hj => ?_⟩
    have hj' : j < (d.keep.map intV).length := by rw [hk] at hj; exact hj
    have := (World.cell?_of_block (w := w) (a := ⟨g, o + j, none⟩) (hoth g hkn.1)).trans (hc j hj')
    simpa [hk] using this
theorem DevP.ok {w : World} {col : Col} {c b : Nat} {d : Dev} (h : DevP w col c b d) : d.OK := by
  obtain ⟨bs, bm, kA, kc, D, h, _⟩ := h; exact h.ok

/-! ### small ones -/
section
attribute [local go_sem] qEqMap qEqBytes qEqInts
set_option maxRecDepth 100000 in
theorem sector_none_nil (w : World) : Calls Try.prog 32 #[.pointer none] w fun e w' => e = .returned (.bool true) ∧ w = w' := by
  go_enter Try.func32, Try.ntmps32
  go_wp2
  go_ret
  exact ⟨rfl, rfl⟩
set_option maxRecDepth 100000 in
theorem sector_none_is (w : World) (b : Nat) (m : Option Nat) (h1 : w.cell? ⟨b, 1, none⟩ = some (.map m)) :
    Calls Try.prog 32 #[.pointer (some ⟨b, 0, none⟩)] w fun e w' => e = .returned (.bool m.isNone) ∧ w = w' := by
  go_enter Try.func32, Try.ntmps32
  go_wp2
  go_ret
  exact ⟨rfl, rfl⟩
def deadE (b : Bool) : Int := if b then 100 else 0
set_option maxRecDepth 100000 in
theorem sector_wrong_is (w : World) (b m : Nat) (dead : Bool) (h1 : w.cell? ⟨b, 1, none⟩ = some (.map (some m))) (h6 : w.cell? ⟨b, 6, none⟩ = some (.bool dead)) :
    Calls Try.prog 16 #[.pointer (some ⟨b, 0, none⟩)] w fun e w' => e = .returned (.int .i64 (deadE dead)) ∧ w = w' := by
  cases dead
  all_goals
    go_enter Try.func16, Try.ntmps16
    go_wp2_with (go_in)
    go_ret
    exact ⟨rfl, rfl⟩
set_option maxRecDepth 100000 in
theorem sector_wrong_nil (w : World) : Calls Try.prog 16 #[.pointer none] w fun e w' => e = .returned (.int .i64 1) ∧ w = w' := by
  go_enter Try.func16, Try.ntmps16
  go_wp2_with (go_in)
  go_ret
  exact ⟨rfl, rfl⟩
set_option maxRecDepth 100000 in
theorem sector_wrong_zero (w : World) (b : Nat) (h1 : w.cell? ⟨b, 1, none⟩ = some (.map none)) : Calls Try.prog 16 #[.pointer (some ⟨b, 0, none⟩)] w fun e w' => e = .returned (.int .i64 1) ∧ w = w' := by
  go_enter Try.func16, Try.ntmps16
  go_wp2_with (go_in)
  go_ret
  exact ⟨rfl, rfl⟩
def atE (dead : Bool) (n : Nat) (i : Int) : Int := if dead then 100 else if i < 0 ∨ (n : Int) ≤ i then 9 else 0
set_option maxRecDepth 100000 in
theorem sector_at_is (w : World) (b m bs n : Nat) (dead : Bool) (i : Int) (h0 : w.cell? ⟨b, 0, none⟩ = some (.slice (some ⟨bs, 0, none⟩) n n)) (h1 : w.cell? ⟨b, 1, none⟩ = some (.map (some m)))
    (h6 : w.cell? ⟨b, 6, none⟩ = some (.bool dead)) :
    Calls Try.prog 23 #[.pointer (some ⟨b, 0, none⟩), .int .i64 i] w fun e w' => e = .returned (.int .i64 (atE dead n i)) ∧ w = w' := by
  cases dead
  · by_cases h : i < 0
    · have hz : atE false n i = 9 := by simp [atE, h]
      rw [hz]; clear hz
      go_enter Try.func23, Try.ntmps23
      go_wp2_with (go_in)
      go_ret
      exact ⟨rfl, rfl⟩
    · by_cases h' : (n : Int) ≤ i
      · have hz : atE false n i = 9 := by simp [atE, h']
        rw [hz]; clear hz
        go_enter Try.func23, Try.ntmps23
        go_wp2_with (go_in)
        go_ret
        exact ⟨rfl, rfl⟩
      · have hz : atE false n i = 0 := by simp [atE, h, h']
        rw [hz]; clear hz
        go_enter Try.func23, Try.ntmps23
        go_wp2_with (go_in)
        go_ret
        exact ⟨rfl, rfl⟩
  · go_enter Try.func23, Try.ntmps23
    go_wp2_with (go_in)
    go_ret
    exact ⟨rfl, rfl⟩
set_option maxRecDepth 100000 in
theorem sector_at_nil (w : World) (i : Int) : Calls Try.prog 23 #[.pointer none, .int .i64 i] w fun e w' => e = .returned (.int .i64 1) ∧ w = w' := by
  go_enter Try.func23, Try.ntmps23
  go_wp2_with (go_at_call 16; refine (sector_wrong_nil _).mono ?_; rintro e w' ⟨rfl, rfl⟩)
  go_ret
  exact ⟨rfl, rfl⟩
set_option maxRecDepth 100000 in
theorem sector_at_zero (w : World) (b : Nat) (i : Int) (h1 : w.cell? ⟨b, 1, none⟩ = some (.map none)) : Calls Try.prog 23 #[.pointer (some ⟨b, 0, none⟩), .int .i64 i] w fun e w' => e = .returned (.int .i64 1) ∧ w = w' := by
  go_enter Try.func23, Try.ntmps23
  go_wp2_with (go_in)
  go_ret
  exact ⟨rfl, rfl⟩
end
theorem DevB.c0 {w : World} {b bs bm kc : Nat} {kA : Option Addr} {D : DataW Unit} {d : Dev} (h : DevB w b bs bm kA kc D d) : w.cell? ⟨b, 0, none⟩ = some (.slice (some ⟨bs, 0, none⟩) d.l.length d.l.length) := h.hd.cell 0
theorem DevB.c1 {w : World} {b bs bm kc : Nat} {kA : Option Addr} {D : DataW Unit} {d : Dev} (h : DevB w b bs bm kA kc D d) : w.cell? ⟨b, 1, none⟩ = some (.map (some bm)) := h.hd.cell 1
theorem DevB.c2 {w : World} {b bs bm kc : Nat} {kA : Option Addr} {D : DataW Unit} {d : Dev} (h : DevB w b bs bm kA kc D d) : w.cell? ⟨b, 2, none⟩ = some (.int .i64 d.left) := h.hd.cell 2
theorem DevB.c3 {w : World} {b bs bm kc : Nat} {kA : Option Addr} {D : DataW Unit} {d : Dev} (h : DevB w b bs bm kA kc D d) : w.cell? ⟨b, 3, none⟩ = some (.slice kA d.keep.length kc) := h.hd.cell 3
theorem DevB.c4 {w : World} {b bs bm kc : Nat} {kA : Option Addr} {D : DataW Unit} {d : Dev} (h : DevB w b bs bm kA kc D d) : w.cell? ⟨b, 4, none⟩ = some (.int .i64 d.til) := h.hd.cell 4
theorem DevB.c5 {w : World} {b bs bm kc : Nat} {kA : Option Addr} {D : DataW Unit} {d : Dev} (h : DevB w b bs bm kA kc D d) : w.cell? ⟨b, 5, none⟩ = some (.int .i64 d.done) := h.hd.cell 5
theorem DevB.c6 {w : World} {b bs bm kc : Nat} {kA : Option Addr} {D : DataW Unit} {d : Dev} (h : DevB w b bs bm kA kc D d) : w.cell? ⟨b, 6, none⟩ = some (.bool d.dead) := h.hd.cell 6
theorem atE_dev (d : Dev) (i : Int) : atE d.dead d.l.length i = d.at_ i := rfl
theorem sector_wrong {w : World} {col : Col} {c b : Nat} {d : Dev} (h : DevP w col c b d) : Calls Try.prog 16 #[.pointer (some ⟨b, 0, none⟩)] w fun e w' => e = .returned (.int .i64 (deadE d.dead)) ∧ w = w' := by
  obtain ⟨bs, bm, kA, kc, D, h, k⟩ := h
  exact sector_wrong_is w b bm d.dead h.c1 h.c6
theorem sector_at {w : World} {col : Col} {c b : Nat} {d : Dev} (h : DevP w col c b d) (i : Int) : Calls Try.prog 23 #[.pointer (some ⟨b, 0, none⟩), .int .i64 i] w fun e w' => e = .returned (.int .i64 (d.at_ i)) ∧ w = w' := by
  obtain ⟨bs, bm, kA, kc, D, h, k⟩ := h
  exact sector_at_is w b bm bs d.l.length d.dead i h.c0 h.c1 h.c6
end Go.Proofs.Ytfcialmdediojaa
