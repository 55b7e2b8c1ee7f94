/-
  Words on memory: blocks that bear colours (who owns them), what a call may turn, slices that read as bytes or numbers. No program stands here.
-/
import Derived.WalkKit
import Derived.WalkSpells
import Derived.WalkLawsBesides
import Derived.Laws.OwnMore
import Derived.Maps.OwnSet
import Derived.Deep.Draws
import Derived.Deep.AppendLies
import Derived.Maps.AppendAt
import Derived.Lib.ConvBytes
import Derived.Deep.MidRow
import Derived.Deep.Upon
import Derived.Lib.Hide
import Derived.KernelRfl
namespace Go.Proofs.Ytfcialmdediojaa
set_option linter.unusedVariables false
set_option linter.unusedSimpArgs false
open Go.RowKit

/-- who owns a block: 0: nobody (what a call has made for itself or for its caller) -/
abbrev Col := Nat → Nat
def Plain (w : World) (col : Col) : Prop := ∀ b, w.heap.size ≤ b → col b = 0

/-- what was there is as it was, but for blocks of the colours C; what is new may bear colours -/
structure Ext (C : Nat → Prop) (w : World) (col : Col) (w' : World) (col' : Col) : Prop where
  os : w'.os = w.os
  tape : w'.tape = w.tape
  output : w'.output = w.output
  size : w.heap.size ≤ w'.heap.size
  plain : Plain w' col'
  same : ∀ b, b < w.heap.size → col' b = col b
  block : ∀ b, b < w.heap.size → ¬ C (col b) → w'.heap[b]? = w.heap[b]?

section
variable {C C' : Nat → Prop} {w w1 w2 : World} {col col1 col2 : Col}
theorem Ext.refl (h : Plain w col) : Ext C w col w col := ⟨rfl, rfl, rfl, Nat.le_refl _, h, fun _ _ => rfl, fun _ _ _ => rfl⟩
theorem Ext.trans (h : Ext C w col w1 col1) (k : Ext C w1 col1 w2 col2) : Ext C w col w2 col2 :=
  ⟨k.os.trans h.os, k.tape.trans h.tape, k.output.trans h.output, Nat.le_trans h.size k.size, k.plain,
   fun b hb => (k.same b (Nat.lt_of_lt_of_le hb h.size)).trans (h.same b hb),
   fun b hb hc => (k.block b (Nat.lt_of_lt_of_le hb h.size) (by rw [h.same b hb]; exact hc)).trans (h.block b hb hc)⟩
theorem Ext.mono (h : Ext C w col w1 col1) (hC : ∀ c, C c → C' c) : Ext C' w col w1 col1 :=
  ⟨h.os, h.tape, h.output, h.size, h.plain, h.same, fun b hb hc => h.block b hb fun h' => hc (hC _ h')⟩
theorem Ext.drewN (h : Ext C w col w1 col1) (n : Nat) : Ext C w col (w1.drewN n) col1 := ⟨h.os, h.tape, h.output, h.size, h.plain, h.same, h.block⟩
theorem Ext.drew (h : Ext C w col w1 col1) : Ext C w col w1.drew col1 := ⟨h.os, h.tape, h.output, h.size, h.plain, h.same, h.block⟩
theorem Plain.drewN (h : Plain w col) (n : Nat) : Plain (w.drewN n) col := h
theorem Plain.drew (h : Plain w col) : Plain w.drew col := h
theorem Plain.size_le (h : Plain w col) (hs : w.heap.size ≤ w1.heap.size) : Plain w1 col := fun b hb => h b (by omega)
theorem Plain.alloc (h : Plain w col) (o : Obj) : Plain (w.alloc o) col := h.size_le (by simp)
theorem Plain.setCell (h : Plain w col) (p : Addr) (u : Value) : Plain (w.setCell p u) col := h.size_le (by simp)
theorem Ext.of_below (h : Below w.heap.size w w1) (hp : Plain w col) : Ext C w col w1 col :=
  ⟨h.os, h.tape, h.output, h.size, hp.size_le h.size, fun _ _ => rfl, fun b hb _ => h.block b hb⟩
theorem Ext.below (h : Ext C w col w1 col1) (k : Below w1.heap.size w1 w2) : Ext C w col w2 col1 := h.trans (.of_below k h.plain)
theorem Ext.alloc (h : Ext C w col w1 col1) (o : Obj) : Ext C w col (w1.alloc o) col1 := h.below ((Below.refl _ _).alloc (Nat.le_refl _) o)
theorem Ext.setCell (h : Ext C w col w1 col1) (p : Addr) (u : Value) (hp : C (col1 p.block) ∨ w.heap.size ≤ p.block) : Ext C w col (w1.setCell p u) col1 :=
  ⟨h.os, h.tape, h.output, by simpa using h.size, h.plain.setCell p u, h.same, fun b hb hc => (Below.heap_setCell w1 p u b (by
    rintro rfl
    rcases hp with hp | hp
    · rw [h.same _ hb] at hp; exact hc hp
    · omega)).trans (h.block b hb hc)⟩
theorem Ext.cell (h : Ext C w col w1 col1) {p : Addr} (hb : p.block < w.heap.size) (hc : ¬ C (col p.block)) : w1.cell? p = w.cell? p := World.cell?_of_block (w := w) (h.block p.block hb hc)
theorem Ext.frozen (h : Ext C w col w1 col1) {p : Addr} (hb : p.block < w.heap.size) (hc : ¬ C (col p.block)) : w1.frozen? p = w.frozen? p := World.frozen?_of_block (w := w) (h.block p.block hb hc)
theorem Ext.grown {row : Option Nat} (h : Ext C w col w1 col1) (hg : w1.grownBy w2 row) (hr : ∀ k, row = some k → C (col1 k) ∨ w.heap.size ≤ k) : Ext C w col w2 col1 :=
  ⟨hg.os.trans h.os, hg.tape.trans h.tape, hg.output.trans h.output, Nat.le_trans h.size hg.size, h.plain.size_le hg.size, h.same, fun b hb hc => (hg.block b (Nat.lt_of_lt_of_le hb h.size) (by
    intro e
    rcases hr b e.symm with hp | hp
    · rw [h.same _ hb] at hp; exact hc hp
    · omega)).trans (h.block b hb hc)⟩
/-- the colour of one new block is laid -/
def Col.set (col : Col) (b c : Nat) : Col := fun k => if k = b then c else col k
theorem Col.set_same (col : Col) (b c : Nat) : Col.set col b c b = c := by simp [Col.set]
theorem Col.set_other (col : Col) {b c k : Nat} (h : k ≠ b) : Col.set col b c k = col k := by simp [Col.set, h]
theorem Ext.paint (h : Ext C w col w1 col1) {b : Nat} (c : Nat) (h1 : w.heap.size ≤ b) (h2 : b < w1.heap.size) : Ext C w col w1 (Col.set col1 b c) :=
  ⟨h.os, h.tape, h.output, h.size, fun k hk => by rw [Col.set_other _ (by omega)]; exact h.plain k hk, fun k hk => by rw [Col.set_other _ (by omega)]; exact h.same k hk, h.block⟩
end

/-! ### a block that is known whole -/
def Blk (w : World) (g : Nat) (t : TypeId) (cs : Array Value) : Prop := w.heap[g]? = some (.cells cs t (0, 0))
section
variable {w w' : World} {g : Nat} {t : TypeId} {cs : Array Value}
theorem Blk.lt (h : Blk w g t cs) : g < w.heap.size := by
  rcases Nat.lt_or_ge g w.heap.size with hlt | hge
  · exact hlt
  · unfold Blk at h; rw [Array.getElem?_eq_none hge] at h; cases h
theorem Blk.cell (h : Blk w g t cs) (i : Nat) : w.cell? ⟨g, i, none⟩ = cs[i]? := cell_of_row w g i cs t (0, 0) h
theorem Blk.frozen (h : Blk w g t cs) (i : Nat) : w.frozen? ⟨g, i, none⟩ = false := by
  unfold Blk at h
  simp [World.frozen?, h]
theorem Blk.new (w : World) (t : TypeId) (cs : Array Value) : Blk (w.alloc (.cells cs t)) w.heap.size t cs := heap_alloc_new w _
theorem Blk.of (h : Blk w g t cs) (e : w'.heap[g]? = w.heap[g]?) : Blk w' g t cs := e.trans h
theorem Blk.drew (h : Blk w g t cs) : Blk w.drew g t cs := h
theorem Blk.drewN (h : Blk w g t cs) (n : Nat) : Blk (w.drewN n) g t cs := h
theorem Blk.alloc (h : Blk w g t cs) (o : Obj) : Blk (w.alloc o) g t cs := (Below.heap_alloc w o g h.lt).trans h
theorem Blk.set_ (h : Blk w g t cs) (i : Nat) (u : Value) : Blk (w.setCell ⟨g, i, none⟩ u) g t (cs.setIfInBounds i u) := by
  unfold Blk at h ⊢
  simp [World.setCell, Array.getElem?_modify, h]
theorem Blk.far (h : Blk w g t cs) {p : Addr} (hp : g ≠ p.block) (u : Value) : Blk (w.setCell p u) g t cs := (Below.heap_setCell w p u g hp).trans h
theorem Blk.below {B : Nat} (h : Blk w g t cs) (hb : Below B w w') (hg : g < B) : Blk w' g t cs := (hb.block g hg).trans h
theorem Blk.grown {row : Option Nat} (h : Blk w g t cs) (hb : w.grownBy w' row) (hg : some g ≠ row) : Blk w' g t cs := (hb.block g h.lt hg).trans h
theorem Blk.ext {C : Nat → Prop} {col col' : Col} (h : Blk w g t cs) (he : Ext C w col w' col') (hc : ¬ C (col g)) : Blk w' g t cs := (he.block g h.lt hc).trans h
theorem Blk.ne_ {g' : Nat} {t' : TypeId} {cs' : Array Value} (h : Blk w g t cs) (h' : Blk w g' t' cs') (hne : t ≠ t') : g ≠ g' := by
  rintro rfl
  unfold Blk at h h'
  rw [h] at h'
  injection h' with h'
  injection h' with _ ht
  exact hne ht
end

/-! ### bytes and numbers as cells; slices that read as such -/
def byteV (c : UInt8) : Value := .int .u8 (c.toNat : Int)
def bytesV (l : List UInt8) : List Value := l.map byteV
def intV (x : Int) : Value := .int .i64 x
theorem bytesV_len (l : List UInt8) : (bytesV l).length = l.length := by simp [bytesV]

/-- the slice at A (nil: where there is nothing) has these cells, one an element -/
def Sl (w : World) (A : Option Addr) (xs : List Value) : Prop :=
  0 < xs.length → ∃ b o, A = some ⟨b, o, none⟩ ∧ b < w.heap.size ∧ ∀ j (h : j < xs.length), w.cell? ⟨b, o + j, none⟩ = some xs[j]
/-- the block in which a slice lies, if it has any byte, is of colour c -/
def SlCol (col : Col) (c : Nat) (A : Option Addr) (n : Nat) : Prop := 0 < n → ∀ ad, A = some ad → col ad.block = c
section
variable {w w' : World} {A : Option Addr} {xs : List Value} {C : Nat → Prop} {col col' : Col} {c n : Nat}
theorem Sl.nil (w : World) (A : Option Addr) : Sl w A [] := fun h => absurd h (by simp)
theorem Sl.of (h : Sl w A xs) (e : ∀ b o, A = some ⟨b, o, none⟩ → w'.heap[b]? = w.heap[b]?) (hs : w.heap.size ≤ w'.heap.size) : Sl w' A xs := fun hn => by
  obtain ⟨b, o, rfl, hb, hc⟩ := h hn
  exact ⟨b, o, rfl, by omega, fun j hj => (World.cell?_of_block (w := w) (e b o rfl)).trans (hc j hj)⟩
theorem Sl.drewN (h : Sl w A xs) (k : Nat) : Sl (w.drewN k) A xs := h
theorem Sl.drew (h : Sl w A xs) : Sl w.drew A xs := h
theorem Sl.below {B : Nat} (h : Sl w A xs) (hb : Below B w w') (hB : w.heap.size ≤ B) : Sl w' A xs := fun hn => by
  obtain ⟨b, o, rfl, hlt, hc⟩ := h hn
  exact ⟨b, o, rfl, Nat.lt_of_lt_of_le hlt hb.size, fun j hj => (hb.cell (p := ⟨b, o + j, none⟩) (Nat.lt_of_lt_of_le hlt hB)).trans (hc j hj)⟩
theorem Sl.alloc (h : Sl w A xs) (o : Obj) : Sl (w.alloc o) A xs := h.below ((Below.refl _ _).alloc (Nat.le_refl _) o) (Nat.le_refl _)
theorem Sl.ext (h : Sl w A xs) (he : Ext C w col w' col') (hk : SlCol col c A xs.length) (hc : ¬ C c) : Sl w' A xs := fun hn => by
  obtain ⟨b, o, rfl, hlt, hx⟩ := h hn
  have hb : col b = c := hk hn _ rfl
  exact ⟨b, o, rfl, Nat.lt_of_lt_of_le hlt he.size, fun j hj => (he.cell (p := ⟨b, o + j, none⟩) hlt (by rw [hb]; exact hc)).trans (hx j hj)⟩
theorem Sl.setCell (h : Sl w A xs) {p : Addr} (u : Value) (hne : ∀ ad, A = some ad → 0 < xs.length → ad.block ≠ p.block) : Sl (w.setCell p u) A xs := fun hn => by
  obtain ⟨b, o, rfl, hlt, hx⟩ := h hn
  exact ⟨b, o, rfl, by simpa using hlt, fun j hj => (World.cell?_setCell_other w p _ u (fun e => hne _ rfl hn (by rw [e]))).trans (hx j hj)⟩
theorem Sl.at_ {k : Nat} (h : Sl w A xs) (hk : k < xs.length) : ∃ b o, A = some ⟨b, o, none⟩ ∧ b < w.heap.size ∧ w.cell? ⟨b, o + k, none⟩ = some xs[k] := by
  obtain ⟨b, o, rfl, hb, hc⟩ := h (by omega)
  exact ⟨b, o, rfl, hb, hc k hk⟩
theorem Sl.of_blk {g : Nat} {t : TypeId} {cs : Array Value} (h : Blk w g t cs) {o : Nat} (e : ∀ j, j < xs.length → cs[o + j]? = xs[j]?) : Sl w (some ⟨g, o, none⟩) xs := fun _ =>
  ⟨g, o, rfl, h.lt, fun j hj => by rw [h.cell, e j hj, List.getElem?_eq_getElem hj]⟩
theorem Sl.of_own {base : Nat} {e : TypeId} {n m c : Nat} (h : w.ownsRow base e 1 (.slice A n c) m xs) : Sl w A xs := fun hn => by
  have hm : 0 < m := by have := h.1; omega
  obtain ⟨g, cap, hv, _, hlt⟩ := h.form hm
  have hA : A = some ⟨g, 0, none⟩ := by injection hv
  subst hA
  refine ⟨g, 0, rfl, hlt, fun j hj => ?_⟩
  have := h.cells (g := g) rfl j _ (List.getElem?_eq_getElem hj)
  rw [show (⟨g, 0 + j, none⟩ : Addr) = (⟨g, 0, none⟩ : Addr).add j from by unfold Addr.add; split <;> simp_all]
  exact this
theorem SlCol.nil (col : Col) (c : Nat) (A : Option Addr) : SlCol col c A 0 := fun h => absurd h (by omega)
theorem SlCol.new {col : Col} {w : World} (hp : Plain w col) {g o : Nat} (hg : w.heap.size ≤ g) (n : Nat) : SlCol col 0 (some ⟨g, o, none⟩) n := fun _ ad h => by injection h with h; subst h; exact hp g hg
theorem SlCol.ext (h : SlCol col c A n) (he : Ext C w col w' col') (hs : ∀ ad, A = some ad → 0 < n → ad.block < w.heap.size) : SlCol col' c A n := fun hn ad ha => by
  rw [he.same _ (hs ad ha hn)]; exact h hn ad ha
theorem Sl.lt (h : Sl w A xs) : ∀ ad, A = some ad → 0 < xs.length → ad.block < w.heap.size := fun ad ha hn => by
  obtain ⟨b, o, rfl, hlt, _⟩ := h hn
  injection ha with ha; subst ha; exact hlt
end

/-! ### a row of cells is stored -/
def putL (cs : Array Value) : Nat → List Value → Array Value
  | _, [] => cs
  | o, v :: vs => putL (cs.setIfInBounds o v) (o + 1) vs
theorem putL_size : ∀ (vs : List Value) (cs : Array Value) (o : Nat), (putL cs o vs).size = cs.size
  | [], _, _ => rfl
  | v :: vs, cs, o => by unfold putL; rw [putL_size vs]; simp
theorem putL_get : ∀ (vs : List Value) (cs : Array Value) (o j : Nat), (putL cs o vs)[j]? = if o ≤ j ∧ j < o + vs.length ∧ j < cs.size then vs[j - o]? else cs[j]?
  | [], cs, o, j => by unfold putL; rw [if_neg (by simp; omega)]
  | v :: vs, cs, o, j => by
    unfold putL
    rw [putL_get vs, Array.size_setIfInBounds, List.length_cons]
    by_cases h1 : o + 1 ≤ j ∧ j < o + 1 + vs.length ∧ j < cs.size
    · rw [if_pos h1, if_pos (by omega), show j - o = (j - (o + 1)) + 1 from by omega, List.getElem?_cons_succ]
    · rw [if_neg h1]
      by_cases h2 : j = o
      · subst h2
        by_cases h3 : j < cs.size
        · rw [if_pos (by omega)]; simp [h3]
        · rw [if_neg (by omega)]; simp [h3]
      · rw [if_neg (by omega)]
        simp [Ne.symm h2]
theorem Blk.setCells {g : Nat} {t : TypeId} : ∀ (vs : List Value) (o : Nat) {w : World} {cs : Array Value}, Blk w g t cs → Blk (w.setCells g o vs) g t (putL cs o vs)
  | [], _, _, _, h => h
  | v :: vs, o, _, _, h => Blk.setCells vs (o + 1) (h.set_ o v)
theorem Below.setCells {B : Nat} {a : World} {g : Nat} (hg : B ≤ g) : ∀ (vs : List Value) (o : Nat) {w : World}, Below B a w → Below B a (w.setCells g o vs)
  | [], _, _, h => h
  | v :: vs, o, _, h => Below.setCells hg vs (o + 1) (h.setCell (p := ⟨g, o, none⟩) hg v)
theorem Ext.setCells {C : Nat → Prop} {w : World} {col col1 : Col} {g : Nat} (hg : C (col1 g) ∨ w.heap.size ≤ g) : ∀ (vs : List Value) (o : Nat) {w1 : World}, Ext C w col w1 col1 → Ext C w col (w1.setCells g o vs) col1
  | [], _, _, h => h
  | v :: vs, o, _, h => Ext.setCells hg vs (o + 1) (h.setCell ⟨g, o, none⟩ v hg)
theorem heap_setCells (w : World) (g o : Nat) (vs : List Value) {k : Nat} (h : k ≠ g) : (w.setCells g o vs).heap[k]? = w.heap[k]? := by
  induction vs generalizing w o with
  | nil => rfl
  | cons v vs ih =>
    show ((w.setCell ⟨g, o, none⟩ v).setCells g (o + 1) vs).heap[k]? = _
    rw [ih]; exact Below.heap_setCell _ _ _ _ h
theorem size_setCells (w : World) (g o : Nat) (vs : List Value) : (w.setCells g o vs).heap.size = w.heap.size := by
  induction vs generalizing w o with
  | nil => rfl
  | cons v vs ih => show ((w.setCell ⟨g, o, none⟩ v).setCells g (o + 1) vs).heap.size = _; rw [ih]; simp
theorem Blk.rangeAt {w : World} {g : Nat} {t : TypeId} {cs : Array Value} (h : Blk w g t cs) {o : Nat} {xs : List Value} (e : ∀ j, j < xs.length → cs[o + j]? = xs[j]?) : w.rangeAt g o xs := fun j v hv => by
  have hj : j < xs.length := (List.getElem?_eq_some_iff.1 hv).1
  rw [h.cell, e j hj, hv]
theorem Blk.there {w : World} {g : Nat} {t : TypeId} {cs : Array Value} (h : Blk w g t cs) {o n : Nat} (e : o + n ≤ cs.size) : w.there g o n := fun j hj => by
  rw [h.cell, h.frozen]
  exact ⟨by simp; omega, rfl⟩
theorem below_ext {C : Nat → Prop} {w w1 w2 : World} {col col1 : Col} (h : Ext C w col w1 col1) (hb : Below w1.heap.size w1 w2) : Ext C w col w2 col1 := h.below hb
theorem grown_of_below {w w' : World} (h : Below w.heap.size w w') (row : Option Nat) : w.grownBy w' row := ⟨h.os, h.tape, h.output, h.size, fun i hi _ => h.block i hi⟩
theorem tape_setCells (w : World) (g o : Nat) (vs : List Value) : (w.setCells g o vs).tape = w.tape := by
  induction vs generalizing w o with
  | nil => rfl
  | cons v vs ih => show ((w.setCell ⟨g, o, none⟩ v).setCells g (o + 1) vs).tape = _; rw [ih]; rfl
theorem grown_setCells (w : World) (g o : Nat) (vs : List Value) : w.grownBy (w.setCells g o vs) (some g) :=
  ⟨World.os_setCells _ _ _ _, tape_setCells _ _ _ _, World.output_setCells _ _ _ _, by rw [size_setCells]; exact Nat.le_refl _, fun k _ hk => heap_setCells _ _ _ _ (by simpa using hk)⟩
theorem wf_i64 {x : Int} (h1 : -9223372036854775808 ≤ x) (h2 : x ≤ 9223372036854775807) : (Lit.int .i64 x).wf = true := by
  simp [Lit.wf, IntKind.min, IntKind.max, IntKind.signed, IntKind.bits]; omega
theorem tmod_two (x : Int) : x.tmod 2 = 0 ↔ x % 2 = 0 := by
  rw [← Int.dvd_iff_tmod_eq_zero, ← Int.dvd_iff_emod_eq_zero]

/-! ### append onto a row of the call's own -/
section
variable {P : Program} (w : World)
theorem run_append_of_nil (base : Nat) (t ty e : TypeId) (i : TypeInfo) (size : Nat) (ht : P.underlying t = some (.slice e)) (hi : P.info? e = some i)
    (v : Value) (n : Nat) (xs : List Value) (hown : w.ownsRow base e size v n xs) (c : Nat) : (Builtin.append_ #[t, t] ty #[v, .slice none 0 c]).run P w = .ok v w := by
  rcases hown.2 with ⟨rfl, rfl⟩ | ⟨g, cap, cur, rfl, _, _, hnc, _⟩
  · simp [Builtin.append_, run_underlying ht, sizeOf, typeInfo, hi, Builtin.lenOf, Builtin.firstCells]
  · simp [Builtin.append_, run_underlying ht, sizeOf, typeInfo, hi, Builtin.lenOf, Builtin.firstCells, hnc, storeCells]
theorem Sl.news {w : World} {A : Option Addr} {xs : List Value} (h : Sl w A xs) {ad : Addr} (hA : A = some ad) : ∀ j u, xs[j]? = some u → w.cell? (ad.add j) = some u := fun j u hu => by
  have hj : j < xs.length := (List.getElem?_eq_some_iff.1 hu).1
  obtain ⟨b, o, e, _, hc⟩ := h (by omega)
  rw [hA] at e; injection e with e; subst e
  rw [Addr.add_mid, hc j hj, ← hu, List.getElem?_eq_getElem hj]
theorem run_append_sl (base : Nat) (t ty e : TypeId) (i : TypeInfo) (z : Value) (bytes : Nat) (ht : P.underlying t = some (.slice e)) (hi : P.info? e = some i) (hz : i.zero = some z)
    (hsize : i.size = 1) (hby : i.bytes = bytes) (hzs : z.cells.size = 1)
    (v : Value) (n : Nat) (xs : List Value) (hown : w.ownsRow base e 1 v n xs)
    (A : Option Addr) (m c : Nat) (news : List Value) (hl : news.length = m) (hr : Sl w A news) (h1 : ∀ u ∈ news, u.oneCell' = true)
    (h63 : n + m ≤ maxLen) (hbytes : (n + m) * bytes ≤ 140737488355328) (hbase : base ≤ w.heap.size) :
    ∃ v' w', (Builtin.append_ #[t, t] ty #[v, .slice A m c]).run P w = .ok v' w' ∧ w'.ownsRow base e 1 v' (n + m) (xs ++ news) ∧ w.grownBy w' v.ownBlock ∧
      (v'.ownBlock = v.ownBlock ∨ v'.ownBlock = some w.heap.size) := by
  rcases A with _ | ad
  · have hm : m = 0 := by
      rcases Nat.eq_zero_or_pos m with h0 | h0
      · exact h0
      · obtain ⟨b, o, h, _⟩ := hr (by omega); cases h
    subst hm
    have hn : news = [] := List.eq_nil_of_length_eq_zero hl
    subst hn
    exact ⟨v, w, run_append_of_nil w base t ty e i 1 ht hi v n xs hown c, by simpa using hown, World.grownBy.refl w _, .inl rfl⟩
  · obtain ⟨v', w', hrun, h2, h3, _, h5⟩ := run_append_own_at (P := P) w base t ty e i z 1 bytes ht hi hz hsize hby hzs (by omega) v n xs hown ad m c news (by omega) (hr.news rfl) h1 h63 hbytes hbase
    exact ⟨v', w', hrun, h2, h3, h5⟩
theorem wp_append_sl {o : Oper} {a : Act} {K : Act → World → Prop} {Q : Exit → Act → World → Prop} (s x : Operand) (t : TypeId)
    (ho : o.op = .call { callee := .builtin .append, args := #[s, x], argTypes := #[t, t] })
    (base : Nat) (e : TypeId) (i : TypeInfo) (z : Value) (bytes : Nat) (ht : P.underlying t = some (.slice e)) (hi : P.info? e = some i) (hz : i.zero = some z)
    (hsize : i.size = 1) (hby : i.bytes = bytes) (hzs : z.cells.size = 1)
    (v : Value) (n : Nat) (xs : List Value) (hs : a.eval s = v) (hown : w.ownsRow base e 1 v n xs)
    (A : Option Addr) (m c : Nat) (news : List Value) (hx : a.eval x = .slice A m c) (hl : news.length = m) (hr : Sl w A news) (h1 : ∀ u ∈ news, u.oneCell' = true)
    (h63 : n + m ≤ maxLen) (hbytes : (n + m) * bytes ≤ 140737488355328) (hbase : base ≤ w.heap.size)
    (h : ∀ v' w', w'.ownsRow base e 1 v' (n + m) (xs ++ news) → w.grownBy w' v.ownBlock → (v'.ownBlock = v.ownBlock ∨ v'.ownBlock = some w.heap.size) → K (a.put o.dst v') w') : o.wp P a w K Q := by
  obtain ⟨v', w', hrun, h2, h3, h4⟩ := run_append_sl (P := P) w base t o.type e i z bytes ht hi hz hsize hby hzs v n xs hown A m c news hl hr h1 h63 hbytes hbase
  unfold Oper.wp execOp
  simp only [ho, resolve, invoke, builtin, Sem.run_bind, Sem.run_pure, Result.andThen_ok, List.map_toArray, List.map_cons, List.map_nil, hs, hx, hrun]
  exact h v' w' h2 h3 h4
theorem wpList_append_sl {ops : Array Oper} {rest : List Oper} {o : Oper} {a : Act} {Q : Exit → Act → World → Prop} (hgd : o.guard = none) (s x : Operand) (t : TypeId)
    (ho : o.op = .call { callee := .builtin .append, args := #[s, x], argTypes := #[t, t] })
    (base : Nat) (e : TypeId) (i : TypeInfo) (z : Value) (bytes : Nat) (ht : P.underlying t = some (.slice e)) (hi : P.info? e = some i) (hz : i.zero = some z)
    (hsize : i.size = 1) (hby : i.bytes = bytes) (hzs : z.cells.size = 1)
    (v : Value) (n : Nat) (xs : List Value) (hs : a.eval s = v) (hown : w.ownsRow base e 1 v n xs)
    (A : Option Addr) (m c : Nat) (news : List Value) (hx : a.eval x = .slice A m c) (hl : news.length = m) (hr : Sl w A news) (h1 : ∀ u ∈ news, u.oneCell' = true)
    (h63 : n + m ≤ maxLen) (hbytes : (n + m) * bytes ≤ 140737488355328) (hbase : base ≤ w.heap.size)
    (h : ∀ v' w', w'.ownsRow base e 1 v' (n + m) (xs ++ news) → w.grownBy w' v.ownBlock → (v'.ownBlock = v.ownBlock ∨ v'.ownBlock = some w.heap.size) → wpList P ops Q rest (a.put o.dst v') w') : wpList P ops Q (o :: rest) a w :=
  wpList_plain hgd fun _ hK => wp_append_sl w s x t ho base e i z bytes ht hi hz hsize hby hzs v n xs hs hown A m c news hx hl hr h1 h63 hbytes hbase fun v' w' h2 h3 h4 => hK _ _ (h v' w' h2 h3 h4)
end
theorem ownsRow_nil (w : World) (base : Nat) (e : TypeId) (size : Nat) : w.ownsRow base e size (.slice none 0 0) 0 [] := ⟨by simp, .inl ⟨rfl, rfl⟩⟩
theorem ownsRow_empty (w : World) (e : TypeId) : (w.alloc (.cells #[] e)).ownsRow w.heap.size e 1 (.slice (some ⟨w.heap.size, 0, none⟩) 0 0) 0 [] :=
  ⟨by simp, .inr ⟨w.heap.size, 0, #[], rfl, Nat.le_refl _, heap_alloc_new w _, Nat.le_refl _, by unfold maxLen; omega, rfl, by simp⟩⟩
theorem oneCell_bytesV (l : List UInt8) : ∀ v ∈ bytesV l, v.oneCell' = true := fun v hv => by
  obtain ⟨c, _, rfl⟩ := List.mem_map.1 hv; rfl
theorem oneCell_intsV (l : List Int) : ∀ v ∈ l.map intV, v.oneCell' = true := fun v hv => by
  obtain ⟨c, _, rfl⟩ := List.mem_map.1 hv; rfl
theorem slice_of_own {w : World} {base n : Nat} {e : TypeId} {v : Value} {xs : List Value} (h : w.ownsRow base e 1 v n xs) : ∃ G cp, v = .slice G n cp ∧ Sl w G xs ∧ n ≤ cp ∧ (0 < n → ∃ g, G = some ⟨g, 0, none⟩ ∧ base ≤ g) ∧ ∀ ad, G = some ad → base ≤ ad.block := by
  rcases h.2 with ⟨rfl, rfl⟩ | ⟨g, cap, cur, rfl, hb, _, hc, _⟩
  · exact ⟨none, 0, rfl, Sl.of_own h, Nat.le_refl _, (fun h => by omega), fun ad h => by cases h⟩
  · exact ⟨some ⟨g, 0, none⟩, cap, rfl, Sl.of_own h, hc, (fun _ => ⟨g, rfl, hb⟩), fun ad h => by injection h with h; subst h; exact hb⟩
#print axioms Sl.of_own
end Go.Proofs.Ytfcialmdediojaa
