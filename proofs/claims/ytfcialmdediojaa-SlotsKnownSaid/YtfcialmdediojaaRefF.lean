/-
  The reference's device: New.
-/
import Derived.Test.YtfcialmdediojaaRefD
import Derived.Test.YtfcialmdediojaaSecH
import Derived.Deep.AppendLies
import Derived.Deep.RegionLaw
namespace Go.Proofs.Ytfcialmdediojaa
set_option linter.unusedVariables false
set_option linter.unusedSimpArgs false
open Go.RowKit
theorem infoSec3 : (Try.prog.info? 86).map (fun i => (i.zero, i.size, i.bytes)) = some (some (.agg #[.slice none 0 0, .slice none 0 0, .bool false]), 3, 56) := by kernel_rfl
theorem news_new (X : World) (T : TypeId) (cs : List Value) (g : Nat) (hg : X.heap.size = g) : ∀ j u, cs[j]? = some u → (X.alloc (.cells cs.toArray T)).drew.cell? ((⟨g, 0, none⟩ : Addr).add j) = some u := fun j u hu => by
  subst hg
  rw [Addr.add_mid, Nat.zero_add]
  exact ((Blk.new X T cs.toArray).cell j).trans (by simpa using hu)
theorem below3 (w : World) (a b c : Obj) : Below w.heap.size w (((w.alloc a).alloc b).alloc c).drew :=
  ((((Below.refl _ _).alloc (Nat.le_refl _) _).alloc (by simp) _).alloc (by simp; omega) _).drew
def secRow (g1 g2 : Nat) : List Value := [.slice (some ⟨g1, 0, none⟩) 128 128, .slice (some ⟨g2, 0, none⟩) 128 128, .bool false]
/-- the rows so far -/
def RowsZero (w : World) (base i : Nat) (xs : List Value) : Prop := ∀ j, j < i → ∃ g1 g2, xs[j * 3]? = some (.slice (some ⟨g1, 0, none⟩) 128 128) ∧ xs[j * 3 + 1]? = some (.slice (some ⟨g2, 0, none⟩) 128 128) ∧ xs[j * 3 + 2]? = some (.bool false) ∧
  Blk w g1 5 (bytesV (zeros 128)).toArray ∧ Blk w g2 5 (bytesV (zeros 128)).toArray ∧ base ≤ g1 ∧ base ≤ g2
def NewRel (w : World) (y : Value) (wr : World) (n : Nat) : Prop := ∃ i G cp xs, i ≤ n ∧ y = .int .i64 (i : Int) ∧ Below w.heap.size w wr ∧
  Blk wr w.heap.size 84 #[.slice G i cp, .int .i64 (-1), .slice none 0 0, .int .i64 (-1), .int .i64 0, .bool false, .bool false] ∧ wr.ownsRow (w.heap.size + 1) 86 3 (.slice G i cp) i xs ∧ RowsZero wr (w.heap.size + 1) i xs
theorem own_blk {w : World} {base n i : Nat} {e : TypeId} {v : Value} {xs : List Value} (h : w.ownsRow base e n v i xs) {k : Nat} (hk : v.ownBlock = some k) : base ≤ k ∧ ∃ cur, Blk w k e cur := by
  rcases h.2 with ⟨rfl, -⟩ | ⟨g, cap, cur, rfl, hb, hbl, -⟩
  · cases hk
  · have : g = k := by simpa [Value.ownBlock] using hk
    subst this
    exact ⟨hb, cur, hbl⟩
theorem new_step {w wr w' : World} {n i cp cap' g' g1 g2 : Nat} {G : Option Addr} {xs : List Value} {ZZ : Array Value} (hZ : (bytesV (zeros 128)).toArray = ZZ) (hb : Below w.heap.size w wr)
    (hbl : Blk wr w.heap.size 84 #[.slice G i cp, .int .i64 (-1), .slice none 0 0, .int .i64 (-1), .int .i64 0, .bool false, .bool false]) (hown : wr.ownsRow (w.heap.size + 1) 86 3 (.slice G i cp) i xs) (hrz : RowsZero wr (w.heap.size + 1) i xs)
    (hlt : i < n) (hg : (g1 = wr.heap.size ∧ g2 = wr.heap.size + 1) ∨ (g1 = wr.heap.size + 1 ∧ g2 = wr.heap.size)) (o : Obj)
    (hgrow : (((wr.alloc (.cells ZZ 5)).alloc (.cells ZZ 5)).alloc o).drew.grownBy w' (Value.slice G i cp).ownBlock)
    (hown' : w'.ownsRow (w.heap.size + 1) 86 3 (.slice (some ⟨g', 0, none⟩) (i + 1) cap') (i + 1) (xs ++ secRow g1 g2)) :
    NewRel w (.int .i64 ((i : Int) + 1)) (w'.setCell ⟨w.heap.size, 0, none⟩ (.slice (some ⟨g', 0, none⟩) (i + 1) cap')) n := by
  have hws : w.heap.size < wr.heap.size := hbl.lt
  have h3 := below3 wr (.cells ZZ 5) (.cells ZZ 5) o
  have n0 : Blk (((wr.alloc (.cells ZZ 5)).alloc (.cells ZZ 5)).alloc o).drew wr.heap.size 5 ZZ := (((Blk.new wr 5 ZZ).alloc _).alloc o).drew
  have n1 : Blk (((wr.alloc (.cells ZZ 5)).alloc (.cells ZZ 5)).alloc o).drew (wr.heap.size + 1) 5 ZZ := by
    have := ((Blk.new (wr.alloc (.cells ZZ 5)) 5 ZZ).alloc o).drew
    rwa [World.size_alloc] at this
  have hblk : ∀ k cs t, Blk (((wr.alloc (.cells ZZ 5)).alloc (.cells ZZ 5)).alloc o).drew k t cs → t ≠ 86 → Blk w' k t cs := fun k cs t hk ht => by
    refine hk.grown hgrow (fun e => ?_)
    obtain ⟨_, cur, hc⟩ := own_blk hown e.symm
    exact (hk.ne_ (hc.below h3 hc.lt) ht) rfl
  generalize (((wr.alloc (.cells ZZ 5)).alloc (.cells ZZ 5)).alloc o).drew = W3 at *
  have hbl' := hblk _ _ _ (hbl.below h3 hbl.lt) (by decide)
  have hlen : xs.length = i * 3 := hown.1
  have hgb : w.heap.size + 1 ≤ g' := (own_blk hown' rfl).1
  have hset : ∀ k cs t, Blk w' k t cs → k ≠ w.heap.size → Blk (w'.setCell ⟨w.heap.size, 0, none⟩ (.slice (some ⟨g', 0, none⟩) (i + 1) cap')) k t cs := fun k cs t hk hne => hk.far (p := ⟨w.heap.size, 0, none⟩) hne _
  refine ⟨i + 1, some ⟨g', 0, none⟩, cap', xs ++ secRow g1 g2, hlt, by simp, ?_, ?_, ?_, ?_⟩
  · have hb3 : Below w.heap.size w W3 := ⟨h3.os.trans hb.os, h3.tape.trans hb.tape, h3.output.trans hb.output, Nat.le_trans hb.size h3.size, fun k hk => (h3.block k (by omega)).trans (hb.block k hk)⟩
    exact (hb3.grown hgrow hb3.size (fun k hk => by have := (own_blk hown hk).1; omega)).setCell (p := ⟨w.heap.size, 0, none⟩) (Nat.le_refl _) _
  · simpa using hbl'.set_ 0 (.slice (some ⟨g', 0, none⟩) (i + 1) cap')
  · rcases hown' with ⟨hx, hy⟩
    refine ⟨hx, .inr ?_⟩
    rcases hy with ⟨e, -⟩ | ⟨g, cap, cur, e, hy1, hy2, hy3⟩
    · cases e
    · injection e with e1 e2 e3
      injection e1 with e1; injection e1 with e1
      subst e1; subst e3
      exact ⟨g', cap', cur, rfl, hy1, hset _ _ _ hy2 (by omega), hy3⟩
  · intro j hj
    by_cases hji : j < i
    · obtain ⟨a1, a2, x0, x1, x2, b1, b2, l1, l2⟩ := hrz j hji
      refine ⟨a1, a2, ?_, ?_, ?_, hset _ _ _ (hblk _ _ _ (b1.below h3 b1.lt) (by decide)) (by omega), hset _ _ _ (hblk _ _ _ (b2.below h3 b2.lt) (by decide)) (by omega), l1, l2⟩
      · rw [List.getElem?_append_left (by omega)]; exact x0
      · rw [List.getElem?_append_left (by omega)]; exact x1
      · rw [List.getElem?_append_left (by omega)]; exact x2
    · obtain rfl : j = i := by omega
      rw [hZ]
      have y1 : Blk w' g1 5 ZZ := by rcases hg with ⟨rfl, -⟩ | ⟨rfl, -⟩ <;> first | exact hblk _ _ _ n0 (by decide) | exact hblk _ _ _ n1 (by decide)
      have y2 : Blk w' g2 5 ZZ := by rcases hg with ⟨-, rfl⟩ | ⟨-, rfl⟩ <;> first | exact hblk _ _ _ n0 (by decide) | exact hblk _ _ _ n1 (by decide)
      refine ⟨g1, g2, ?_, ?_, ?_, hset _ _ _ y1 (by omega), hset _ _ _ y2 (by omega), by omega, by omega⟩
      · rw [List.getElem?_append_right (by omega), hlen]; simp [secRow]
      · rw [List.getElem?_append_right (by omega), hlen, show j * 3 + 1 - j * 3 = 1 from by omega]; simp [secRow]
      · rw [List.getElem?_append_right (by omega), hlen, show j * 3 + 2 - j * 3 = 2 from by omega]; simp [secRow]
set_option maxRecDepth 100000 in
theorem refdev_new_bad (w : World) (n : Int) (hn : n < 1 ∨ 8192 < n) :
    Calls Try.prog 19 #[.int .i64 n] w fun e w' => e = .returned (.tuple #[.pointer none, .int .i64 2]) ∧ Drawn w w' := by
  rcases hn with h | h
  all_goals
    go_enter Try.func19, Try.ntmps19
    go_wp2
    go_ret2
    exact ⟨rfl, Drawn.refl w⟩
set_option maxRecDepth 100000 in
set_option maxHeartbeats 1600000 in
theorem refdev_new {w : World} {col : Col} (hp : Plain w col) (n : Nat) (h1 : 1 ≤ n) (h2 : n ≤ 8192) (c : Nat) :
    Calls Try.prog 19 #[.int .i64 (n : Int)] w fun e w' => ∃ b, e = .returned (.tuple #[.pointer (some ⟨b, 0, none⟩), .int .i64 0]) ∧ w.heap.size ≤ b ∧
      ∃ col', Ext (fun _ => False) w col w' col' ∧ RefP w' col' c b (Dev.new n) := by
  have t1 : decide ((n : Int) < 1) = false := by simp; omega
  have t2 : decide ((8192 : Int) < (n : Int)) = false := by simp; omega
  obtain ⟨i0, hi, hz0, hz1, hz2⟩ := info_parts infoSec3
  have hmk : ∀ w, (Instr.makeSlice 27 (.int .i64 128) (.int .i64 128)).run Try.prog w = .ok (.slice (some ⟨w.heap.size, 0, none⟩) 128 128) (w.alloc (.cells (bytesV (zeros 128)).toArray 5)) := fun _ => by kernel_rfl
  generalize hZZ : (bytesV (zeros 128)).toArray = ZZ at *
  go_enter Try.func19, Try.ntmps19
  go_wp2
  go_loopw [5] (fun y wr => NewRel w y wr n) (fun y _ => n - (intOf y).toNat)
  case atStart => exact ⟨0, none, 0, [], Nat.zero_le _, rfl, (Below.refl _ _).alloc (Nat.le_refl _) _, Blk.new w 84 _, ownsRow_nil _ _ _ _, fun j hj => by omega⟩
  case round =>
    obtain ⟨i, G, cp, xs, hin, rfl, hb, hbl, hown, hrz⟩ := hrel
    have c0 : wr.cell? ⟨w.heap.size, 0, none⟩ = some (.slice G i cp) := hbl.cell 0
    have z0 := hbl.frozen 0
    have HX := Lib.hid (And.intro hb (And.intro hbl (And.intro hown hrz)))
    clear hb hbl hown hrz
    by_cases hlt : i < n
    · have HS : Hid (∀ W, Below wr.heap.size wr W → W.cell? ⟨w.heap.size, 0, none⟩ = some (.slice G i cp) ∧ W.frozen? ⟨w.heap.size, 0, none⟩ = false) := Lib.hid fun W hW => ⟨(hW.cell (World.block_lt_of_cell? wr ⟨_, _, _⟩ c0)).trans c0, (HX.out.2.1.below hW HX.out.2.1.lt).frozen 0⟩
      have HO : Hid (∀ W, Below wr.heap.size wr W → W.ownsRow (w.heap.size + 1) 86 3 (.slice G i cp) i xs) := Lib.hid fun W hW => HX.out.2.2.1.kept (grown_of_below hW none) (Classical.em _)
      have hws : w.heap.size < wr.heap.size := World.block_lt_of_cell? wr ⟨_, _, _⟩ c0
      have HN : Hid (∀ a b c W, (((wr.alloc a).alloc b).alloc c).drew.grownBy W (Value.slice G i cp).ownBlock → W.cell? ⟨w.heap.size, 0, none⟩ = some (.slice G i cp) ∧ W.frozen? ⟨w.heap.size, 0, none⟩ = false) := Lib.hid fun a b c W hW => by
        have hh := hW.block w.heap.size (Nat.lt_of_lt_of_le hws (below3 wr a b c).size) (by
          rcases HX.out.2.2.1.2 with ⟨e, -⟩ | ⟨g, cap, cur, e, hb, -⟩
          · rw [e]; simp [Value.ownBlock]
          · rw [e]; simp [Value.ownBlock]; omega)
        exact ⟨(World.cell?_of_block (a := ⟨w.heap.size, 0, none⟩) hh).trans (HS.out _ (below3 wr a b c)).1, (World.frozen?_of_block (a := ⟨w.heap.size, 0, none⟩) hh).trans (HS.out _ (below3 wr a b c)).2⟩
      have hA1 : ∀ a, (wr.alloc a).cell? ⟨w.heap.size, 0, none⟩ = some (.slice G i cp) := fun a => (HS.out _ ((Below.refl _ _).alloc (Nat.le_refl _) a)).1
      have hA2 : ∀ a b, ((wr.alloc a).alloc b).cell? ⟨w.heap.size, 0, none⟩ = some (.slice G i cp) := fun a b => (HS.out _ (((Below.refl _ _).alloc (Nat.le_refl _) a).alloc (by simp) b)).1
      have hA3 : ∀ a b c, (((wr.alloc a).alloc b).alloc c).cell? ⟨w.heap.size, 0, none⟩ = some (.slice G i cp) := fun a b c => (HS.out _ (below3 wr a b c)).1
      have hne := World.new_ne wr ⟨w.heap.size, 0, none⟩ c0
      go_wp2_with fail
      go_region_law
        (first
          | (refine step_append_lies _ rfl (.tmp 23) (.tmp 27) 82 rfl (w.heap.size + 1) 86 i0 _ 3 56 Try.underlying82 hi hz0 hz1 hz2 rfl (by omega) (.slice G i cp) i xs (by simp [Act.eval, Act.put]) (HO.out _ (below3 _ _ _ _)) ⟨wr.heap.size + 1 + 1, 0, none⟩ 1 1 (secRow (wr.heap.size) (wr.heap.size + 1)) (by simp [Act.eval, Act.put]) rfl (news_new _ _ _ _ (by simp)) (by simp [secRow, Value.oneCell']) (by omega) (by unfold maxLen; omega) (by omega) (by simp; omega) _ rfl ?_; intro g' cap' w' hown' hgrow' hat' hlt'; obtain ⟨hx0, hx1⟩ := HN.out _ _ _ _ hgrow')
          | (refine step_append_lies _ rfl (.tmp 23) (.tmp 27) 82 rfl (w.heap.size + 1) 86 i0 _ 3 56 Try.underlying82 hi hz0 hz1 hz2 rfl (by omega) (.slice G i cp) i xs (by simp [Act.eval, Act.put]) (HO.out _ (below3 _ _ _ _)) ⟨wr.heap.size + 1 + 1, 0, none⟩ 1 1 (secRow (wr.heap.size + 1) (wr.heap.size)) (by simp [Act.eval, Act.put]) rfl (news_new _ _ _ _ (by simp)) (by simp [secRow, Value.oneCell']) (by omega) (by unfold maxLen; omega) (by omega) (by simp; omega) _ rfl ?_; intro g' cap' w' hown' hgrow' hat' hlt'; obtain ⟨hx0, hx1⟩ := HN.out _ _ _ _ hgrow'))
      all_goals
        have HST := Lib.hid (new_step hZZ HX.out.1 HX.out.2.1 HX.out.2.2.1 HX.out.2.2.2 hlt (by omega) _ hgrow' hown')
        clear hown' hgrow' hat' hlt' hx0 hx1 hA1 hA2 hA3 hne c0 z0
        generalize w'.setCell ⟨w.heap.size, 0, none⟩ (.slice (some ⟨g', 0, none⟩) (i + 1) cap') = w5 at *
        go_wp2
        go_roundw
        case rel => exact HST.out
        case measure => simp [intOf]; omega
    · obtain rfl : i = n := by omega
      go_wp2
      go_ret2
      obtain ⟨hb, hbl, hown, hrz⟩ := HX.out
      obtain ⟨hlen, hcase⟩ := hown
      rcases hcase with ⟨-, h0⟩ | ⟨g, cap, cur, e, hgb, hgbl, hic, hcm, hcs, htk⟩
      · omega
      injection e with e1 e2 e3
      subst e1; subst e3
      have he : Ext (fun _ => False) w col wr col := .of_below hb hp
      have hglt : g < wr.heap.size := (show Blk wr g _ _ from hgbl).lt
      refine ⟨w.heap.size, rfl, Nat.le_refl _, Col.set (Col.set col w.heap.size c) g c, (he.paint c (Nat.le_refl _) hbl.lt).paint c (by omega) hglt, Dev.OK.new h1 h2, g, cp, cur, none, 0, ?_⟩
      have hcol : ∀ k, w.heap.size ≤ k → k ≠ w.heap.size → k ≠ g → (Col.set (Col.set col w.heap.size c) g c) k = 0 := fun k hk h1 h2 => by rw [Col.set_other _ h2, Col.set_other _ h1]; exact hp k hk
      refine ⟨by simpa [Dev.new] using hbl, hgbl, fun j hj => ?_, Sl.nil _ _, fun h => absurd h (by simp [Dev.new]), ?_, Col.set_same ..⟩
      · have hj' : j < i := by simpa [Dev.new] using hj
        obtain ⟨a1, a2, x0, x1, x2, b1, b2, l1, l2⟩ := hrz j hj'
        have hs : (Dev.new i).l[j] = Sec.zero := by simp [Dev.new]
        rw [hs]
        have hcx : ∀ q, q < i * 3 → cur[q]? = xs[q]? := fun q hq => by
          rw [← htk, List.getElem?_take_of_lt hq]; simp
        have z1 : (zeros 128).length = 128 := by simp [zeros]
        have hgn : ∀ a, Blk wr a 5 (bytesV (zeros 128)).toArray → a ≠ g := fun a ha => ha.ne_ (show Blk wr g _ _ from hgbl) (by decide)
        refine ⟨some ⟨a1, 0, none⟩, 128, some ⟨a2, 0, none⟩, 128, ?_, ?_, ?_, Sl.of_blk b1 (fun q _ => by rw [Nat.zero_add]; simp [Sec.zero]), Sl.of_blk b2 (fun q _ => by rw [Nat.zero_add]; simp [Sec.zero]), fun _ ad ha => ?_, fun _ ad ha => ?_⟩
        · rw [hcx _ (by omega), x0]; simp [Sec.zero, zeros]
        · rw [hcx _ (by omega), x1]; simp [Sec.zero, zeros]
        · rw [hcx _ (by omega), x2]; rfl
        · injection ha with ha; subst ha; exact hcol a1 (by omega) (by omega) (hgn _ b1)
        · injection ha with ha; subst ha; exact hcol a2 (by omega) (by omega) (hgn _ b2)
      · rw [Col.set_other _ (by omega)]; exact Col.set_same ..
end Go.Proofs.Ytfcialmdediojaa
