/-
  The program's device: its calls.
-/
import Derived.Test.YtfcialmdediojaaSecE
namespace Go.Proofs.Ytfcialmdediojaa
set_option linter.unusedVariables false
set_option linter.unusedSimpArgs false
open Go.RowKit
theorem Sl.rangeAt {w : World} {b o : Nat} {xs : List Value} (h : Sl w (some ⟨b, o, none⟩) xs) : w.rangeAt b o xs := fun j v hv => by
  have hj : j < xs.length := (List.getElem?_eq_some_iff.1 hv).1
  obtain ⟨b', o', e, _, hc⟩ := h (by omega)
  injection e with e
  injection e with e1 e2
  subst e1; subst e2
  rw [hc j hj, ← hv, List.getElem?_eq_getElem hj]
theorem three_boxes {w : World} {col : Col} (hp : Plain w col) (t0 t1 t2 : TypeId) (v0 v1 v2 : Value) :
    ∃ w3, ((w.alloc (.cells #[v0] t0)).alloc (.cells #[v1] t1)).alloc (.cells #[v2] t2) = w3 ∧ Ext (fun _ => False) w col w3 col ∧
      w3.cell? ⟨w.heap.size, 0, none⟩ = some v0 ∧ w3.cell? ⟨w.heap.size + 1, 0, none⟩ = some v1 ∧ w3.cell? ⟨w.heap.size + 1 + 1, 0, none⟩ = some v2 := by
  have b0 := ((Blk.new w t0 #[v0]).alloc (.cells #[v1] t1)).alloc (.cells #[v2] t2)
  have b1 := (Blk.new (w.alloc (.cells #[v0] t0)) t1 #[v1]).alloc (.cells #[v2] t2)
  have b2 := Blk.new ((w.alloc (.cells #[v0] t0)).alloc (.cells #[v1] t1)) t2 #[v2]
  simp only [World.size_alloc] at b1 b2
  exact ⟨_, rfl, (((Ext.refl hp).alloc _).alloc _).alloc _, b0.cell 0, b1.cell 0, b2.cell 0⟩
theorem Sl.ext_of {w w' : World} {C : Nat → Prop} {col col' : Col} {A : Option Addr} {xs : List Value} (h : Sl w A xs) (he : Ext C w col w' col') (hc : ∀ ad, A = some ad → 0 < xs.length → ¬ C (col ad.block)) : Sl w' A xs := fun hn => by
  obtain ⟨b, o, rfl, hlt, hx⟩ := h hn
  exact ⟨b, o, rfl, Nat.lt_of_lt_of_le hlt he.size, fun j hj => (he.cell (p := ⟨b, o + j, none⟩) hlt (show ¬ C (col b) from hc _ rfl hn)).trans (hx j hj)⟩
theorem DevP.of_work {w : World} {col : Col} {c b bs bm kc : Nat} {kA : Option Addr} {d d' : Dev} (k : DevC col c b bs bm kA d.keep.length) (e : d'.keep = d.keep) (h : ∃ D', DevB w b bs bm kA kc D' d') : DevP w col c b d' := by
  obtain ⟨D', h⟩ := h
  exact ⟨bs, bm, kA, kc, D', h, by rw [e]; exact k⟩
theorem Dev.worked_keep (d : Dev) (mid fin : List Sec → List Sec) : (d.worked mid fin).1.keep = d.keep := by
  unfold Dev.worked
  split
  · rfl
  · split <;> rfl
set_option maxRecDepth 100000 in
set_option maxHeartbeats 1600000 in
theorem sector_write {w : World} {col : Col} {c b : Nat} {d : Dev} (h : DevP w col c b d) (hp : Plain w col) (hc0 : c ≠ 0) (i : Int) {A : Option Addr} {l : List UInt8} (cap : Nat) (hl : Sl w A (bytesV l))
    (hA : 0 < l.length → ∀ ad, A = some ad → col ad.block ≠ c) :
    Calls Try.prog 11 #[.pointer (some ⟨b, 0, none⟩), .int .i64 i, .slice A l.length cap] w fun e w' =>
      e = .returned (.int .i64 (d.write i l).2) ∧ Ext (· = c) w col w' col ∧ DevP w' col c b (d.write i l).1 := by
  have H := Lib.hid h
  have HL := Lib.hid hl
  clear h hl
  by_cases ha : d.at_ i = 0
  · by_cases hlen : l.length = 128
    · have e1 : d.write i l = d.worked (fun x => x.modify i.toNat (Sec.put l)) id := by simp [Dev.write, ha, hlen]
      rw [e1]
      obtain ⟨xb, xo, rfl, hxb, hxc⟩ := HL.out (by rw [bytesV_len]; omega)
      have hix : 0 ≤ i ∧ i < d.l.length := by
        unfold Dev.at_ at ha
        split at ha
        · omega
        split at ha
        · omega
        · omega
      obtain ⟨n, rfl⟩ : ∃ n : Nat, i = (n : Int) := ⟨i.toNat, by omega⟩
      have hxx := hA (by omega) _ rfl
      have HA := Lib.hid hlen
      have hlen2 : ((l.length : Int) != 128) = false := by simp [hlen]
      clear hA hxc hlen e1
      go_enter Try.func11, Try.ntmps11
      go_wp2_with fail
      obtain ⟨w3, hw3, he, k0, k1, k2⟩ := three_boxes hp 26 3 27 (.pointer (some ⟨b, 0, none⟩)) (.int .i64 (n : Int)) (.slice (some ⟨xb, xo, none⟩) l.length cap)
      rw [hw3]
      clear hw3
      have H3 := Lib.hid (H.out.ext he (c := c) (fun h => h))
      have HL3 := Lib.hid (HL.out.ext_of he (fun _ _ _ h => h))
      have hs := he.size
      have n0 : col w.heap.size ≠ c := by rw [hp _ (Nat.le_refl _)]; exact Ne.symm hc0
      have n1 : col (w.heap.size + 1) ≠ c := by rw [hp _ (by omega)]; exact Ne.symm hc0
      have n2 : col (w.heap.size + 1 + 1) ≠ c := by rw [hp _ (by omega)]; exact Ne.symm hc0
      have HE := Lib.hid he
      have HN := Lib.hid (And.intro n0 (And.intro n1 n2))
      clear he n0 n1 n2 hs
      generalize w.heap.size = g at *
      refine (sector_at H3.out _).mono ?_
      rintro e w4 ⟨rfl, rfl⟩
      rw [ha]
      go_wp2_with fail
      obtain ⟨bs, bm, kA, kc, D, hd, hk⟩ := H3.out
      refine (work_write w3 col c g (g + 1) (g + 1 + 1) b bs bm kc xb xo cap n kA D d l hd hk HE.out.plain k0 k1 (by rw [k2, HA.out]) (by omega) HL3.out.rangeAt HA.out HN.out.1 HN.out.2.1 HN.out.2.2 hxx).mono ?_
      rintro e w5 ⟨rfl, he5, h5⟩
      have HF : Hid (Ext (· = c) w col w5 col ∧ DevP w5 col c b (d.worked (fun l_1 => l_1.modify n (Sec.put l)) id).1) := ⟨(HE.out.mono (fun _ h => h.elim)).trans he5, DevP.of_work hk (Dev.worked_keep ..) h5⟩
      clear he5 h5 k0 k1 k2
      go_wp2
      go_ret
      exact ⟨rfl, HF.out⟩
    · have e1 : d.write i l = (d, 2) := by simp [Dev.write, ha, hlen]
      rw [e1]
      have hlen2 : ((l.length : Int) != 128) = true := by rw [bne_iff_ne]; omega
      clear hlen e1
      go_enter Try.func11, Try.ntmps11
      go_wp2_with fail
      obtain ⟨w3, hw3, he, k0, k1, k2⟩ := three_boxes hp 26 3 27 (.pointer (some ⟨b, 0, none⟩)) (.int .i64 i) (.slice A l.length cap)
      rw [hw3]
      clear hw3
      have H3 := Lib.hid (H.out.ext he (c := c) (fun h => h))
      have HE := Lib.hid he
      clear he
      refine (sector_at H3.out _).mono ?_
      rintro e w4 ⟨rfl, rfl⟩
      rw [ha]
      go_wp2_with fail
      go_ret
      exact ⟨rfl, HE.out.mono (fun _ h => h.elim), H3.out⟩
  · have e1 : d.write i l = (d, d.at_ i) := by simp [Dev.write, ha]
    rw [e1]
    have hb : (d.at_ i != 0) = true := by rw [bne_iff_ne]; exact ha
    clear ha e1
    go_enter Try.func11, Try.ntmps11
    go_wp2_with fail
    obtain ⟨w3, hw3, he, k0, k1, k2⟩ := three_boxes hp 26 3 27 (.pointer (some ⟨b, 0, none⟩)) (.int .i64 i) (.slice A l.length cap)
    rw [hw3]
    clear hw3
    have H3 := Lib.hid (H.out.ext he (c := c) (fun h => h))
    have HE := Lib.hid he
    clear he
    refine (sector_at H3.out _).mono ?_
    rintro e w4 ⟨rfl, rfl⟩
    generalize hq : d.at_ i = q at *
    have HQ := Lib.hid hq
    clear hq
    go_wp2_with fail
    go_ret
    exact ⟨by rw [HQ.out]; rfl, HE.out.mono (fun _ h => h.elim), H3.out⟩
set_option maxRecDepth 100000 in
set_option maxHeartbeats 1600000 in
theorem sector_flush {w : World} {col : Col} {c b : Nat} {d : Dev} (h : DevP w col c b d) (hp : Plain w col) (hc0 : c ≠ 0) :
    Calls Try.prog 15 #[.pointer (some ⟨b, 0, none⟩)] w fun e w' =>
      e = .returned (.int .i64 d.flush.2) ∧ Ext (· = c) w col w' col ∧ DevP w' col c b d.flush.1 := by
  have H := Lib.hid h
  clear h
  have b0 := Blk.new w 26 #[.pointer (some ⟨b, 0, none⟩)]
  have he : Ext (fun _ => False) w col (w.alloc (.cells #[.pointer (some ⟨b, 0, none⟩)] 26)) col := (Ext.refl hp).alloc _
  have hk0 := b0.cell 0
  have H3 := Lib.hid (H.out.ext he (c := c) (fun h => h))
  have n0 : col w.heap.size ≠ c := by rw [hp _ (Nat.le_refl _)]; exact Ne.symm hc0
  have HE := Lib.hid he
  clear he b0
  by_cases hd : d.dead = true
  · have e1 : d.flush = (d, 100) := by simp [Dev.flush, hd]
    rw [e1]
    clear e1
    go_enter Try.func15, Try.ntmps15
    go_wp2_with fail
    generalize w.alloc (.cells #[.pointer (some ⟨b, 0, none⟩)] 26) = w3 at *
    refine (sector_wrong H3.out).mono ?_
    rintro e w4 ⟨rfl, rfl⟩
    rw [hd, show deadE true = 100 from rfl]
    go_wp2_with fail
    go_ret
    exact ⟨rfl, HE.out.mono (fun _ h => h.elim), H3.out⟩
  · have e1 : d.flush = d.worked id (·.map Sec.flush) := by simp [Dev.flush, hd]
    rw [e1]
    have hd : d.dead = false := by simpa using hd
    clear e1
    go_enter Try.func15, Try.ntmps15
    go_wp2_with fail
    generalize w.alloc (.cells #[.pointer (some ⟨b, 0, none⟩)] 26) = w3 at *
    generalize w.heap.size = g at *
    refine (sector_wrong H3.out).mono ?_
    rintro e w4 ⟨rfl, rfl⟩
    rw [hd, show deadE false = 0 from rfl]
    have hk0' : w3.cell? ⟨g, 0, none⟩ = some (.pointer (some ⟨b, 0, none⟩)) := hk0
    clear hk0
    go_wp2_with fail
    obtain ⟨bs, bm, kA, kc, D, hd, hk⟩ := H3.out
    refine (work_flush w3 col c g b bs bm kc kA D d hd hk HE.out.plain hk0' n0).mono ?_
    rintro e w5 ⟨rfl, he5, h5⟩
    have HF : Hid (Ext (· = c) w col w5 col ∧ DevP w5 col c b (d.worked id (·.map Sec.flush)).1) := ⟨(HE.out.mono (fun _ h => h.elim)).trans he5, DevP.of_work hk (Dev.worked_keep ..) h5⟩
    clear he5 h5 hk0'
    go_wp2
    go_ret
    exact ⟨rfl, HF.out⟩
set_option maxRecDepth 100000 in
set_option maxHeartbeats 1600000 in
theorem sector_crash {w : World} {col : Col} {c b : Nat} {d : Dev} (h : DevP w col c b d) (hp : Plain w col) {A : Option Addr} {ks : List Int} (cap : Nat) (hks : Sl w A (ks.map intV)) (hcap : ks.length ≤ cap)
    (hA : 0 < ks.length → ∀ ad, A = some ad → col ad.block ≠ c) :
    Calls Try.prog 7 #[.pointer (some ⟨b, 0, none⟩), .slice A ks.length cap] w fun e w' =>
      e = .returned (.int .i64 (d.crash ks).2) ∧ Ext (· = c) w col w' col ∧ DevP w' col c b (d.crash ks).1 := by
  have H := Lib.hid h
  clear h
  by_cases hd : d.dead = true
  · have e1 : d.crash ks = (d, 100) := by simp [Dev.crash, hd]
    rw [e1]
    clear e1
    go_enter Try.func7, Try.ntmps7
    go_wp2_with fail
    refine (sector_wrong H.out).mono ?_
    rintro e w4 ⟨rfl, rfl⟩
    rw [hd, show deadE true = 100 from rfl]
    go_wp2_with fail
    go_ret
    exact ⟨rfl, Ext.refl hp, H.out⟩
  · have e1 : d.crash ks = (d.gone ks, 0) := by simp [Dev.crash, hd]
    rw [e1]
    have hd : d.dead = false := by simpa using hd
    clear e1
    go_enter Try.func7, Try.ntmps7
    go_wp2_with fail
    refine (sector_wrong H.out).mono ?_
    rintro e w4 ⟨rfl, rfl⟩
    rw [hd, show deadE false = 0 from rfl]
    go_wp2_with fail
    obtain ⟨bs, bm, kA, kc, D, hd, hk⟩ := H.out
    refine (gone_is w col c b bs bm kc kA D d hd hk hp ks A cap hks hcap (fun ad ha hn => ?_)).mono ?_
    · have := hA hn ad ha
      exact ⟨fun e => this (by rw [e]; exact hk.b), fun e => this (by rw [e]; exact hk.bs), fun e => this (by rw [e]; exact hk.bm)⟩
    rintro e w5 ⟨rfl, he5, h5⟩
    have HF : Hid (Ext (· = c) w col w5 col ∧ DevP w5 col c b (d.gone ks)) := ⟨he5, DevP.of_work hk rfl ⟨_, h5⟩⟩
    clear he5 h5
    go_wp2
    go_ret
    exact ⟨rfl, HF.out⟩
end Go.Proofs.Ytfcialmdediojaa
