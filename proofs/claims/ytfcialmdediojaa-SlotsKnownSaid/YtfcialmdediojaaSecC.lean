/-
  The program's device: the power goes.
-/
import Derived.Test.YtfcialmdediojaaSecB
import Derived.Test.YtfcialmdediojaaSortLay
namespace Go.Proofs.Ytfcialmdediojaa
set_option linter.unusedVariables false
set_option linter.unusedSimpArgs false
open Go.RowKit Go.Maps

theorem sortsA (m : Nat) : AnyZI.SortsIn Try.prog Try.sortedA_ren Fence.wide m :=
  ⟨fun blk off cap ss W hH hblk hsz => callsIn_wide.2 (AnyM.slices_Sort_int Try.sortA blk off cap ss W hH hblk hsz),
   fun p cap W => callsIn_wide.2 (AnyM.slices_Sort_int_none Try.sortA p cap W)⟩
theorem keys_call (mb : Option Nat) (W : World) : Calls Try.prog 34 #[.map mb] W fun e w' =>
    e = .returned (.func (.func 54) #[] #[.pointer (some ⟨W.heap.size, 0, none⟩)]) ∧ w' = W.alloc (.cells #[.map mb] 38) :=
  (callsIn_wide (n := 5)).1 (AnyZI.keys_in Try.keysA Fence.wide 5 trivial rfl mb W)
theorem sorted_call (b nn : Nat) (D0 : DataW Unit) (w : World) (hown : w.ownsMap Try.prog 3 blkR b nn D0) (hmax : Maps.size D0 ≤ maxLen) (hbytes : Maps.size D0 * 8 ≤ 140737488355328) :
    Calls Try.prog 33 #[.func (.func 54) #[] #[.pointer (some ⟨w.heap.size, 0, none⟩)]] (w.alloc (.cells #[.map (some b)] 38)) fun e w' =>
      ∃ (v : Value) (ss : List Int), e = .returned v ∧ ss.Perm (intKeys D0) ∧
      w'.ownsRow (w.heap.size + 1) 3 1 v ss.length ((ss.mergeSort (fun x y => decide (x ≤ y))).map encZ) ∧ (v = .slice none 0 0 ↔ ss = []) ∧ Below (w.heap.size + 1) (w.alloc (.cells #[.map (some b)] 38)) w' := by
  have hbl := hown.lt
  have hseq : SeqGives Fence.wide 2 Try.prog 54 #[.pointer (some ⟨w.heap.size, 0, none⟩)] encZ (fun ss => ss.Perm (intKeys D0)) (Maps.size D0) (w.alloc (.cells #[.map (some b)] 38)) :=
    AnyZI.keys_gives (ρ := Try.keysA_ren) { Try.keysA with } Fence.wide _ trivial rfl (by omega) w.heap.size b nn D0 _ (by simp) (by simp) (by
      obtain ⟨es, clock, hb, Ft, hs, hD⟩ := hown
      exact ⟨es, clock, (Below.heap_alloc _ _ b hbl).trans hb, Ft, hs, hD⟩)
  have cS := AnyZI.sorted_in Try.sortedA Fence.wide 5 trivial trivial trivial trivial rfl (by omega) (sortsA _) (enters_of Try.func53 (by kernel_rfl) rfl) 54 #[.pointer (some ⟨w.heap.size, 0, none⟩)] trivial (enters_of Try.func54 (by kernel_rfl) rfl) _ _ hmax hbytes _ hseq
  have c2 := (callsIn_wide (n := 5)).1 cS
  change Calls Try.prog 33 _ _ _ at c2
  refine c2.mono fun e w' h => ?_
  obtain ⟨v, ss, rfl, hS, hrow, hnil, hb⟩ := h
  exact ⟨v, ss, rfl, hS, ownsRow_base_a hrow (by simp), hnil, hb.mono (by simp)⟩
/-- the numbers of the sectors that were written, rising -/
theorem sorted_written {D : DataW Unit} {l : List Sec} {w : World} {b n : Nat} (h : MapIs D l) (hown : w.ownsMap Try.prog 3 blkR b n D) {ss : List Int} (hp : ss.Perm (intKeys D)) :
    (ss.mergeSort (fun x y => decide (x ≤ y))) = (writtenFrom 0 l).map fun i : Nat => (i : Int) := by
  have hnd : ((writtenFrom 0 l).map fun i : Nat => (i : Int)).Nodup := by
    refine List.pairwise_map.2 ((written_rising l 0).imp fun {a b} hab e => ?_)
    have : (a : Int) = b := e
    omega
  have hc : CollectedI D (fun _ => false) ((writtenFrom 0 l).map fun i : Nat => (i : Int)) := by
    refine ⟨hnd, fun x => ?_⟩
    rw [List.mem_map]
    constructor
    · rintro ⟨i, hi, rfl⟩
      obtain ⟨_, s, hs, hw⟩ := (mem_writtenFrom l 0 i).1 hi
      rw [Nat.sub_zero] at hs
      obtain ⟨hlt, rfl⟩ := List.getElem?_eq_some_iff.1 hs
      exact ⟨by have := h.has i hlt; rw [hw] at this; exact this, rfl⟩
    · rintro ⟨hx, _⟩
      obtain ⟨i, hlt, hk⟩ := h.only _ hx
      have hk' : x = (i : Int) := by injection hk
      subst hk'
      have := h.has i hlt
      rw [show keyZ i = Lit.int .i64 (i : Int) from rfl, hx] at this
      exact ⟨i, (mem_writtenFrom l 0 i).2 ⟨Nat.zero_le _, l[i], by rw [Nat.sub_zero]; exact List.getElem?_eq_getElem hlt, this.symm⟩, rfl⟩
  have hp2 := hc.perm hown keyedInt Try.underlying3 (fun _ => rfl)
  have e := mergeSort_of_perm_i (hp.trans hp2.symm)
  refine e.trans (List.mergeSort_of_pairwise ?_)
  refine List.pairwise_map.2 ((written_rising l 0).imp fun {a b} hab => ?_)
  simp; omega

/-- what the map has of a sector that was written -/
theorem look_sure {W : World} {bm n : Nat} {D : DataW Unit} {l : List Sec} (hown : W.ownsMap Try.prog 3 blkR bm n D) (is : MapIs D l) {i : Nat} (hi : i < l.length) (hl : l.length ≤ 8192) (hw : l[i].wr = true) :
    (Instr.lookup 38 (.map (some bm)) (.int .i64 (i : Int)) false).run Try.prog W = .ok (.agg (bytesV l[i].sure).toArray) W := by
  obtain ⟨v, ps, hrun, hv⟩ := hown.lookup keyedInt Try.underlying38 (zeroBlock W) (zd := datB (bytesV (zeros 128))) (zp := []) (by simp [blkR]) (Go.Maps.keyOf_int_mk Try.underlying3 (wf_i64 (x := (i : Int)) (by omega) (by omega)))
  rw [hrun]
  have ha := is.at_ i hi hw (datB (bytesV (zeros 128)))
  rw [show Lit.int .i64 (i : Int) = keyZ i from rfl, ha] at hv
  unfold blkR at hv
  split at hv
  · rename_i cs
    simp only [Option.some.injEq, Prod.mk.injEq] at hv
    have := datB_inv _ _ hv.1
    rw [← this]
  · cases hv
theorem map_ne_blk {H : Type} {P : Program} {k : TypeId} {R : Value → Option (DataW H × List MemPlace)} {w : World} {b n g : Nat} {D : DataW H} {t : TypeId} {cs : Array Value} (h : w.ownsMap P k R b n D) (hb : Blk w g t cs) : b ≠ g := fun e => by
  obtain ⟨es, clock, hm, _⟩ := h
  unfold Blk at hb
  rw [e, hb] at hm; cases hm
/-- clear(m) -/
theorem ownsMap_clear {H : Type} {P : Program} {k t e : TypeId} {R : Value → Option (DataW H × List MemPlace)} {w : World} {b n : Nat} {D : DataW H} (h : w.ownsMap P k R b n D) (ht : P.underlying t = some (.map k e)) (ty : TypeId) :
    ∃ w', (Builtin.clear_ #[t] ty #[.map (some b)]).run P w = .ok (.tuple #[]) w' ∧ w'.ownsMap P k R b 0 (.map []) ∧ w.grownBy w' (some b) := by
  obtain ⟨es, clock, hb, F, hs, rfl⟩ := h
  refine ⟨Go.ChangeMaps.setBlock w b (.map #[] clock), ?_, ⟨#[], clock, Go.ChangeMaps.heap_setBlock_same hb _, ⟨by simp, Go.MapKept.stamped_empty clock, by simp⟩, Nat.le_refl _, rfl⟩,
    ⟨rfl, rfl, rfl, by simp [Go.ChangeMaps.setBlock], fun i _ hi => Go.ChangeMaps.heap_setBlock_other hb _ (fun e => hi (by rw [e]))⟩⟩
  simp [Builtin.clear_, run_underlying ht, MapKept.run_getObj_map hb, MapKept.run_setObj_map _ hb, Result.andThen, Go.ChangeMaps.setBlock]
theorem wpList_clear_own {H : Type} {P : Program} (w : World) {ops : Array Oper} {rest : List Oper} {o : Oper} {a : Act} {Q : Exit → Act → World → Prop} (hg : o.guard = none) (m : Operand) (t : TypeId)
    (hop : o.op = Op.call { callee := Callee.builtin Builtin.clear, args := #[m], argTypes := #[t] }) (k e : TypeId) (ht : P.underlying t = some (.map k e)) (R : Value → Option (DataW H × List MemPlace)) (b n : Nat) (D : DataW H)
    (hm : a.eval m = .map (some b)) (hown : w.ownsMap P k R b n D) (hK : ∀ w', w'.ownsMap P k R b 0 (.map []) → w.grownBy w' (some b) → wpList P ops Q rest (a.put o.dst (.tuple #[])) w') : wpList P ops Q (o :: rest) a w := by
  refine wpList_plain hg fun K' hK' => ?_
  obtain ⟨w', hrun, r1, r2⟩ := ownsMap_clear hown ht o.type
  unfold Oper.wp
  simp [execOp, hop, resolve, invoke, builtin, hm, hrun, Result.andThen]
  exact hK' _ _ (hK w' r1 r2)
/-- behind j rounds -/
structure GoneR (w1 : World) (col : Col) (c bs : Nat) (keep : List Int) (ws : List Nat) (l : List Sec) (j : Nat) (wr : World) : Prop where
  ext : Ext (· = c) w1 col wr col
  oth : ∀ k, k < w1.heap.size → k ≠ bs → wr.heap[k]? = w1.heap[k]?
  sec : Blk wr bs 67 (secV (lostSteps keep (ws.take j) 0 l)).toArray
def GoneRel (w1 : World) (col : Col) (c bs : Nat) (keep : List Int) (ws : List Nat) (l : List Sec) (x : Value) (wr : World) : Prop := ∃ j : Nat, j ≤ ws.length ∧ x = .int .i64 (j : Int) ∧ GoneR w1 col c bs keep ws l j wr
/-- what a round of the loop reads -/
structure GoneF (b bs bm m : Nat) (D : DataW Unit) (G A : Option Addr) (ws : List Nat) (keep : List Int) (W : World) : Prop where
  f0 : W.cell? ⟨b, 0, none⟩ = some (.slice (some ⟨bs, 0, none⟩) m m)
  f1 : W.cell? ⟨b, 1, none⟩ = some (.map (some bm))
  own : W.ownsMap Try.prog 3 blkR bm (Maps.size D) D
  row : Sl W G ((ws.map fun i : Nat => (i : Int)).map encZ)
  keep : Sl W A (keep.map intV)
theorem GoneF.kept {b bs bm m : Nat} {D : DataW Unit} {G A : Option Addr} {ws : List Nat} {keep : List Int} {W W' : World} (h : GoneF b bs bm m D G A ws keep W)
    (he : ∀ k, k < W.heap.size → k ≠ bs → W'.heap[k]? = W.heap[k]?) (hsz : W.heap.size ≤ W'.heap.size) (n1 : b ≠ bs) (n2 : bm ≠ bs) (n3 : ∀ ad, G = some ad → ad.block ≠ bs) (n4 : ∀ ad, A = some ad → 0 < keep.length → ad.block ≠ bs) : GoneF b bs bm m D G A ws keep W' := by
  have c : ∀ {p : Addr} {v : Value}, W.cell? p = some v → p.block ≠ bs → W'.cell? p = some v := fun hp hn => (World.cell?_of_block (he _ (lt_of_cell hp) hn)).trans hp
  have s : ∀ {X : Option Addr} {xs : List Value}, Sl W X xs → (∀ ad, X = some ad → 0 < xs.length → ad.block ≠ bs) → Sl W' X xs := fun hx hn hl => by
    obtain ⟨g, o, rfl, hlt, hc⟩ := hx hl
    exact ⟨g, o, rfl, by omega, fun j hj => c (hc j hj) (hn ⟨g, o, none⟩ rfl hl)⟩
  refine ⟨c h.f0 n1, c h.f1 n1, ?_, s h.row (fun ad ha _ => n3 ad ha), s h.keep (fun ad ha hl => n4 ad ha (by simpa using hl))⟩
  obtain ⟨es, clock, hb, F, hs, hD⟩ := h.own
  exact ⟨es, clock, (he bm (Array.getElem?_eq_some_iff.1 hb).1 n2).trans hb, F, hs, hD⟩
theorem GoneR.step {w1 wr : World} {col : Col} {c bs j : Nat} {keep : List Int} {ws : List Nat} {l : List Sec} (h : GoneR w1 col c bs keep ws l j wr) (hj : j < ws.length) (hcs : col bs = c) (hall : All128 (lostSteps keep (ws.take j) 0 l))
    (hi : ws[j] < (lostSteps keep (ws.take j) 0 l).length) (bytes : List UInt8) (hb : ((lostSteps keep (ws.take j) 0 l)[ws[j]]).lost keep j = bytes) (hlen : bytes.length = 128) :
    GoneR w1 col c bs keep ws l (j + 1) (wr.drew.setCells bs (ws[j] * 128) (bytesV bytes)) := by
  have htk : ws.take (j + 1) = ws.take j ++ [ws[j]] := by rw [List.take_succ_eq_append_getElem hj]
  have hst : lostSteps keep (ws.take (j + 1)) 0 l = lostAt keep (lostSteps keep (ws.take j) 0 l) j ws[j] := by
    rw [htk, lostSteps_snoc, List.length_take, Nat.zero_add, Nat.min_eq_left (by omega)]
  refine ⟨Ext.setCells (.inl hcs) _ _ h.ext.drew, fun k hk hne => (heap_setCells _ _ _ _ hne).trans (h.oth k hk hne), ?_⟩
  rw [hst]
  unfold lostAt
  have hput := Blk.setCells (bytesV bytes) (ws[j] * 128) (w := wr.drew) h.sec
  clear h hst
  generalize lostSteps keep (ws.take j) 0 l = L at *
  have e : putL (secV L).toArray (ws[j] * 128) (bytesV bytes) = (secV (L.modify ws[j] fun s => { s with now := s.lost keep j })).toArray := by
    rw [Nat.mul_comm, secV_mod L _ (fun s => { s with now := bytes }) hall hi hlen]
    congr 2
    apply List.ext_getElem?
    intro q
    rw [List.getElem?_modify, List.getElem?_modify]
    by_cases hq : ws[j] = q
    · subst hq
      rw [List.getElem?_eq_getElem hi]
      simp [hb]
    · simp [hq]
  rw [← e]; exact hput
theorem GoneR.skip {w1 wr : World} {col : Col} {c bs j : Nat} {keep : List Int} {ws : List Nat} {l : List Sec} (h : GoneR w1 col c bs keep ws l j wr) (hj : j < ws.length)
    (hi : ws[j] < (lostSteps keep (ws.take j) 0 l).length) (hb : ((lostSteps keep (ws.take j) 0 l)[ws[j]]).lost keep j = ((lostSteps keep (ws.take j) 0 l)[ws[j]]).now) : GoneR w1 col c bs keep ws l (j + 1) wr := by
  have htk : ws.take (j + 1) = ws.take j ++ [ws[j]] := by rw [List.take_succ_eq_append_getElem hj]
  have hst : lostSteps keep (ws.take (j + 1)) 0 l = lostAt keep (lostSteps keep (ws.take j) 0 l) j ws[j] := by
    rw [htk, lostSteps_snoc, List.length_take, Nat.zero_add, Nat.min_eq_left (by omega)]
  refine ⟨h.ext, h.oth, ?_⟩
  have e : lostAt keep (lostSteps keep (ws.take j) 0 l) j ws[j] = lostSteps keep (ws.take j) 0 l := by
    unfold lostAt
    generalize lostSteps keep (ws.take j) 0 l = L at *
    apply List.ext_getElem?
    intro q
    rw [List.getElem?_modify]
    by_cases hq : ws[j] = q
    · subst hq
      rw [List.getElem?_eq_getElem hi]
      simp only [if_true, Option.map_eq_map, Option.map_some]
      rw [hb]
    · simp [hq]
  rw [hst, e]; exact h.sec
set_option maxRecDepth 100000 in
set_option maxHeartbeats 1600000 in
theorem gone_is (w : World) (col : Col) (c b bs bm kc : Nat) (kA : Option Addr) (D : DataW Unit) (d : Dev) (h : DevB w b bs bm kA kc D d) (k : DevC col c b bs bm kA d.keep.length) (hp : Plain w col)
    (keep : List Int) (A : Option Addr) (cap : Nat) (hs : Sl w A (keep.map intV)) (hcap : keep.length ≤ cap) (hne : ∀ ad, A = some ad → 0 < keep.length → ad.block ≠ b ∧ ad.block ≠ bs ∧ ad.block ≠ bm) :
    Calls Try.prog 17 #[.pointer (some ⟨b, 0, none⟩), .slice A keep.length cap] w fun e w' =>
      e = .returned (.int .i64 100) ∧ Ext (· = c) w col w' col ∧ DevB w' b bs bm kA kc (.map []) (d.gone keep) := by
  have c1 := h.c1
  have H := Lib.hid h
  have hsz : Maps.size D ≤ 8192 := Nat.le_trans h.is.size h.ok.few
  have HN := Lib.hid hsz
  clear h hsz
  go_enter Try.func17, Try.ntmps17
  go_wp2_with fail
  refine (keys_call _ _).mono ?_
  rintro e w1 ⟨rfl, rfl⟩
  go_wp2_with fail
  refine (sorted_call bm _ D w H.out.map (by have := HN.out; unfold maxLen; omega) (by have := HN.out; omega)).mono ?_
  rintro e w1 ⟨v, ss, rfl, hS, hrow, -, hb⟩
  rw [sorted_written H.out.is H.out.map hS] at hrow
  have hlen : ss.length = (writtenFrom 0 d.l).length := by have := hrow.1; simpa using this.symm
  rw [hlen] at hrow
  obtain ⟨G, cp, rfl, hG, -, hGb, hGa⟩ := slice_of_own hrow
  have Hb := Lib.hid hb
  have HE : Hid (Ext (· = c) w col w1 col) := Ext.of_below (((Below.refl w.heap.size w).alloc (Nat.le_refl _) _).trans (hb.mono (by omega))) hp
  clear hS hrow hlen hb c1
  have HG := Lib.hid hG
  have HGb := Lib.hid hGb
  have hws : (writtenFrom 0 d.l).length ≤ 8192 := Nat.le_trans (written_len _ _) H.out.ok.few
  generalize hwsd : writtenFrom 0 d.l = ws at *
  have HW := Lib.hid hwsd
  clear hG hGb hwsd
  have he1 : ∀ k, k < w.heap.size → w1.heap[k]? = w.heap[k]? := fun k hk => (((Below.refl w.heap.size w).alloc (Nat.le_refl _) _).trans (Hb.out.mono (by omega))).block k hk
  have hbbs : b ≠ bs := H.out.hd.ne_ H.out.sec (by decide)
  have hmbs : bm ≠ bs := map_ne_blk H.out.map H.out.sec
  have hgbs : ∀ ad, G = some ad → ad.block ≠ bs := fun ad ha => by have h1 := hGa ad ha; have h2 := H.out.sec.lt; omega
  have F1 : Hid (GoneF b bs bm d.l.length D G A ws keep w1) := by
    have hbel : Below w.heap.size w w1 := ((Below.refl w.heap.size w).alloc (Nat.le_refl _) _).trans (Hb.out.mono (by omega))
    refine ⟨(hbel.cell (lt_of_cell H.out.c0)).trans H.out.c0, (hbel.cell (lt_of_cell H.out.c1)).trans H.out.c1, ?_, HG.out, hs.below hbel (Nat.le_refl _)⟩
    exact H.out.map.kept (grown_of_below hbel none) (by simp)
  go_wp2
  go_loopw [14, 5, 6] (fun x _ _ wr => GoneRel w1 col c bs keep ws d.l x wr) (fun x _ _ _ => ws.length - (intOf x).toNat)
  case atStart => exact ⟨0, Nat.zero_le _, rfl, ⟨Ext.refl HE.out.plain, fun _ _ _ => rfl, by rw [List.take_zero]; exact H.out.sec.ext (C := fun _ => False) (Ext.of_below (((Below.refl w.heap.size w).alloc (Nat.le_refl _) _).trans (Hb.out.mono (by omega))) hp) (fun h => h)⟩⟩
  case round =>
    obtain ⟨j, hj, rfl, R⟩ := hrel
    have HR := Lib.hid R
    have hF : GoneF b bs bm d.l.length D G A ws keep wr := F1.out.kept R.oth R.ext.size hbbs hmbs (fun ad ha => hgbs ad ha) (fun ad ha hl => (hne ad ha hl).2.1)
    have HF := Lib.hid hF
    clear hF R
    by_cases hlt : j < ws.length
    · obtain ⟨f0, f1, fown, frow, fkeep⟩ := HF.out
      obtain ⟨g, hg, -⟩ := HGb.out (by omega)
      subst hg
      have crow : wr.cell? ⟨g, j, none⟩ = some (.int .i64 (ws[j] : Int)) := by
        obtain ⟨g', o', e, _, hc⟩ := frow.at_ (k := j) (by simpa using hlt)
        injection e with e; injection e with e1 e2; subst e1; subst e2
        simpa using hc
      have hmem : ws[j] ∈ writtenFrom 0 d.l := by rw [HW.out]; exact List.getElem_mem _
      obtain ⟨-, s, hs1, hs2⟩ := (mem_writtenFrom d.l 0 ws[j]).1 hmem
      rw [Nat.sub_zero] at hs1
      obtain ⟨hil, rfl⟩ := List.getElem?_eq_some_iff.1 hs1
      have hnot : ws[j] ∉ ws.take j := fun hh => by
        obtain ⟨q, hq, e⟩ := List.getElem_of_mem hh
        have hr := written_rising d.l 0
        rw [HW.out] at hr
        have hq' : q < j := by simp at hq; omega
        have := List.pairwise_iff_getElem.1 hr q j (by omega) hlt hq'
        rw [List.getElem_take] at e; omega
      have hget : (lostSteps keep (ws.take j) 0 d.l)[ws[j]]? = some d.l[ws[j]] := by rw [lostSteps_get keep _ _ _ _ hnot]; exact hs1
      have hil2 : ws[j] < (lostSteps keep (ws.take j) 0 d.l).length := by rw [lostSteps_len]; exact hil
      have hget2 : (lostSteps keep (ws.take j) 0 d.l)[ws[j]] = d.l[ws[j]] := by rw [List.getElem?_eq_getElem hil2] at hget; injection hget
      have hall : All128 (lostSteps keep (ws.take j) 0 d.l) := all_lost H.out.ok.now H.out.ok.sure
      have hlook := look_sure fown H.out.is hil H.out.ok.few hs2
      have hlook2 : Hid (∀ W : World, W.heap[bm]? = wr.heap[bm]? → (Instr.lookup 38 (.map (some bm)) (.int .i64 (ws[j] : Int)) false).run Try.prog W = .ok (.agg (bytesV d.l[ws[j]].sure).toArray) W) := fun W e => by
        obtain ⟨es, clock, hb, F, hs, hD⟩ := HF.out.own
        exact look_sure (W := W) ⟨es, clock, e.trans hb, F, hs, hD⟩ H.out.is hil H.out.ok.few hs2
      have hsl : d.l[ws[j]].sure.length = 128 := H.out.ok.sure _ (List.getElem_mem _)
      have hthere : Hid (∀ W : World, W.heap[bs]? = wr.heap[bs]? → W.there bs (ws[j] * 128) 128) := fun W e => (HR.out.sec.of e).there (by rw [List.size_toArray, secV_len hall, lostSteps_len]; omega)
      have hstep : Hid (d.l[ws[j]].lost keep j = d.l[ws[j]].sure → GoneR w1 col c bs keep ws d.l (j + 1) (wr.drew.setCells bs (ws[j] * 128) (bytesV d.l[ws[j]].sure))) := fun e => HR.out.step hlt k.bs hall hil2 _ (by rw [hget2]; exact e) hsl
      have hskip : Hid (d.l[ws[j]].lost keep j = d.l[ws[j]].now → GoneR w1 col c bs keep ws d.l (j + 1) wr) := fun e => HR.out.skip hlt hil2 (by rw [hget2]; exact e)
      have hone := oneCell_bytes d.l[ws[j]].sure
      have hlenb : (bytesV d.l[ws[j]].sure).length = 128 := by rw [bytesV_len, hsl]
      have hbs0 : d.l.length ≤ 8192 := H.out.ok.few
      generalize d.l[ws[j]] = sec at *
      generalize hm : d.l.length = m at *
      have HM := Lib.hid hm
      generalize hii : ws[j] = i at *
      have i0 : (0 : Int) ≤ (i : Int) := by omega
      have i1 : (i : Int) < (m : Int) := by omega
      clear fown frow hmem hs1 hs2 hnot hget hget2 hil2 hall hlook hsl hii hm
      have HS : Hid (∀ W : World, W.heap[b]? = wr.heap[b]? → W.heap[bm]? = wr.heap[bm]? → W.there bs (i * 128) 128 → W.cell? ⟨b, 0, none⟩ = some (.slice (some ⟨bs, 0, none⟩) m m) ∧ W.cell? ⟨b, 1, none⟩ = some (.map (some bm)) ∧ W.there bs (i * 128) 128 ∧
            (Instr.lookup 38 (.map (some bm)) (.int .i64 (i : Int)) false).run Try.prog W = .ok (.agg (bytesV sec.sure).toArray) W) := fun W e1 e2 e3 =>
        ⟨(World.cell?_of_block (w := wr) e1).trans f0, (World.cell?_of_block (w := wr) e1).trans f1, e3, hlook2.out W e2⟩
      have HT := hthere
      have hinf := infoBlock
      clear hthere hlook2
      by_cases hk : keep.length ≤ j
      · have Hl : Hid (sec.lost keep j = sec.sure) := by
          unfold Hid Sec.lost; rw [if_pos (by simp [List.getD, List.getElem?_eq_none hk])]
        go_wp2
        go_region_held3 (fun w' => w'.cell? ⟨b, 0, none⟩ = some (.slice (some ⟨bs, 0, none⟩) m m) ∧ w'.cell? ⟨b, 1, none⟩ = some (.map (some bm)) ∧ w'.there bs (i * 128) 128 ∧
            (Instr.lookup 38 (.map (some bm)) (.int .i64 (i : Int)) false).run Try.prog w' = .ok (.agg (bytesV sec.sure).toArray) w')
          (first | exact HS.out _ rfl rfl (HT.out _ rfl) | exact HS.out _ (heap_setCells _ _ _ _ hbbs) (heap_setCells _ _ _ _ hmbs) (World.there_setCells (w := wr.drew) (HT.out _ rfl) _ _ _)) (fail)
        go_wp2
        go_roundw
        case rel => exact ⟨j + 1, by omega, by go_num, hstep.out Hl.out⟩
        case measure => simp [intOf]; omega
      · have hkj : j < keep.length := by omega
        obtain ⟨kb, ko, rfl, -, hkc⟩ := HF.out.keep.at_ (k := j) (by simpa using hkj)
        have ckeep : wr.cell? ⟨kb, ko + j, none⟩ = some (.int .i64 keep[j]) := by simpa [intV] using hkc
        generalize hkv : keep[j] = kv at *
        have HKV := Lib.hid hkv
        clear hkc hkv fkeep
        by_cases h2 : kv % 2 = 0
        · have Hl : Hid (sec.lost keep j = sec.sure) := by
            unfold Hid Sec.lost; rw [if_pos (by simp only [List.getD, List.getElem?_eq_getElem hkj, Option.getD_some]; rw [HKV.out]; exact h2)]
          have ht : (kv.tmod 2 == 0) = true := by rw [beq_iff_eq]; exact (tmod_two kv).2 h2
          clear h2
          go_wp2
          go_region_held3 (fun w' => w'.cell? ⟨b, 0, none⟩ = some (.slice (some ⟨bs, 0, none⟩) m m) ∧ w'.cell? ⟨b, 1, none⟩ = some (.map (some bm)) ∧ w'.there bs (i * 128) 128 ∧
              (Instr.lookup 38 (.map (some bm)) (.int .i64 (i : Int)) false).run Try.prog w' = .ok (.agg (bytesV sec.sure).toArray) w')
            (first | exact HS.out _ rfl rfl (HT.out _ rfl) | exact HS.out _ (heap_setCells _ _ _ _ hbbs) (heap_setCells _ _ _ _ hmbs) (World.there_setCells (w := wr.drew) (HT.out _ rfl) _ _ _)) (fail)
          go_wp2
          go_roundw
          case rel => exact ⟨j + 1, by omega, by go_num, hstep.out Hl.out⟩
          case measure => simp [intOf]; omega
        · have Hl : Hid (sec.lost keep j = sec.now) := by
            unfold Hid Sec.lost; rw [if_neg (by simp only [List.getD, List.getElem?_eq_getElem hkj, Option.getD_some]; rw [HKV.out]; exact h2)]
          have ht : (kv.tmod 2 == 0) = false := by rw [beq_eq_false_iff_ne]; exact fun h => h2 ((tmod_two kv).1 h)
          clear h2
          go_wp2
          go_roundw
          case rel => exact ⟨j + 1, by omega, by go_num, hskip.out Hl.out⟩
          case measure => simp [intOf]; omega
    · have hjn : j = ws.length := by omega
      subst hjn
      have f1 := HF.out.f1
      have hdr : Hid (Blk wr b 41 #[.slice (some ⟨bs, 0, none⟩) d.l.length d.l.length, .map (some bm), .int .i64 d.left, .slice kA d.keep.length kc, .int .i64 d.til, .int .i64 d.done, .bool d.dead]) :=
        Blk.of (w := w1) (H.out.hd.of (he1 b H.out.hd.lt)) (HR.out.oth b (Nat.lt_of_lt_of_le H.out.hd.lt HE.out.size) hbbs)
      have hbbm : some b ≠ some bm := fun e => by injection e with e; exact map_ne_blk H.out.map H.out.hd e.symm
      go_wp2_with ((with_reducible refine wpList_clear_own _ rfl (.tmp 47) 38 rfl _ _ Try.underlying38 blkR bm _ D ?hm HF.out.own ?hk); (case hm => rfl); intro w2 hown2 hgrow2; (have hd2 := hdr.out.grown hgrow2 hbbm); (have q2 : w2.cell? ⟨b, 2, none⟩ = some (.int .i64 d.left) := hd2.cell 2); (have q4 : w2.cell? ⟨b, 4, none⟩ = some (.int .i64 d.til) := hd2.cell 4); (have q6 : w2.cell? ⟨b, 6, none⟩ = some (.bool d.dead) := hd2.cell 6); (have z2 := hd2.frozen 2); (have z4 := hd2.frozen 4); (have z6 := hd2.frozen 6); (have HO := Lib.hid hown2); (have HW2 := Lib.hid hgrow2); (have HD2 := Lib.hid hd2); clear hown2 hgrow2 hd2)
      go_ret
      have hext : Ext (· = c) w col wr col := HE.out.trans HR.out.ext
      have hx2 : Ext (· = c) w col w2 col := hext.grown HW2.out (fun k' hk' => by injection hk' with hk'; subst hk'; exact .inl k.bm)
      have hsec : Blk w2 bs 67 (secV (goneL keep 0 d.l)).toArray := by
        have h1 := HR.out.sec.grown HW2.out (by simpa using Ne.symm hmbs)
        rw [List.take_length] at h1
        have h2 := lostSteps_now keep d.l [] 0
        rw [List.length_nil, HW.out] at h2
        rw [secV_now (l' := goneL keep 0 d.l) (by simpa using h2)] at h1
        exact h1
      have hx3 : Ext (· = c) w col (((w2.setCell ⟨b, 6, none⟩ (.bool true)).setCell ⟨b, 2, none⟩ (.int .i64 (-1))).setCell ⟨b, 4, none⟩ (.int .i64 (-1))) col :=
        ((hx2.setCell _ _ (.inl k.b)).setCell _ _ (.inl k.b)).setCell _ _ (.inl k.b)
      have hkp : Sl w2 kA (d.keep.map intV) := by
        intro hl
        obtain ⟨g, o, e, hlt, hc⟩ := H.out.keep hl
        have hkn := H.out.kne _ e (by simpa using hl)
        have hbb : ∀ q, w2.cell? ⟨g, q, none⟩ = w.cell? ⟨g, q, none⟩ := fun q => World.cell?_of_block (w := w) (by
          rw [HW2.out.block g (Nat.lt_of_lt_of_le hlt hext.size) (by simpa using hkn.2.2), HR.out.oth g (Nat.lt_of_lt_of_le hlt HE.out.size) hkn.2.1]; exact he1 g hlt)
        exact ⟨g, o, e, Nat.lt_of_lt_of_le hlt hx2.size, fun q hq => (hbb _).trans (hc q hq)⟩
      refine ⟨rfl, hx3, ⟨?_, ?_, ?_, ?_, ?_, H.out.cap, H.out.kne, H.out.ok.gone keep⟩⟩
      · have h1 := ((HD2.out.set_ 6 (.bool true)).set_ 2 (.int .i64 (-1))).set_ 4 (.int .i64 (-1))
        simp only [Dev.gone, goneL_len]
        exact h1
      · exact ((hsec.far (p := ⟨b, 6, none⟩) (Ne.symm hbbs) _).far (p := ⟨b, 2, none⟩) (Ne.symm hbbs) _).far (p := ⟨b, 4, none⟩) (Ne.symm hbbs) _
      · have hbm' : bm ≠ b := fun e => hbbm (by rw [e])
        exact ((HO.out.setCell (a := ⟨b, 6, none⟩) hbm' _).setCell (a := ⟨b, 2, none⟩) hbm' _).setCell (a := ⟨b, 4, none⟩) hbm' _
      · exact MapIs.none fun s hs => (goneL_all keep (fun _ => True) 0 d.l (fun _ _ => ⟨trivial, trivial⟩) s hs).2.2
      · have hn : ∀ ad, kA = some ad → 0 < (d.keep.map intV).length → ad.block ≠ b := fun ad ha hl => (H.out.kne ad ha (by simpa using hl)).1
        exact ((hkp.setCell (p := ⟨b, 6, none⟩) _ hn).setCell (p := ⟨b, 2, none⟩) _ hn).setCell (p := ⟨b, 4, none⟩) _ hn
end Go.Proofs.Ytfcialmdediojaa
