/-
  The program's device: Boot, Refuse, Fail, Read.
-/
import Derived.Test.YtfcialmdediojaaSecF
import Derived.Test.YtfcialmdediojaaLib
import Derived.BigRegion
namespace Go.Proofs.Ytfcialmdediojaa
set_option linter.unusedVariables false
set_option linter.unusedSimpArgs false
open Go.RowKit
set_option maxRecDepth 100000 in
theorem sector_boot {w : World} {col : Col} {c b : Nat} {d : Dev} (h : DevP w col c b d) (hp : Plain w col) :
    Calls Try.prog 43 #[.pointer (some ⟨b, 0, none⟩)] w fun e w' =>
      e = .returned (.int .i64 0) ∧ Ext (· = c) w col w' col ∧ DevP w' col c b d.boot := by
  obtain ⟨bs, bm, kA, kc, D, h, k⟩ := h
  have c1 := h.c1
  have z6 := h.hd.frozen 6
  have H := Lib.hid h
  clear h
  go_enter Try.func43, Try.ntmps43
  go_wp2_with fail
  refine (sector_none_is w b _ c1).mono ?_
  rintro e w1 ⟨rfl, rfl⟩
  have c6 := H.out.c6
  go_wp2_with fail
  go_ret
  refine ⟨rfl, (Ext.refl hp).setCell _ _ (.inl k.b), bs, bm, kA, kc, D, ?_, k⟩
  exact H.out.head (d' := d.boot) (by simpa [Dev.boot] using H.out.hd.set_ 6 (.bool false)) (fun q hq => Below.heap_setCell _ _ _ _ hq) (by simp) rfl rfl H.out.ok.boot (H.out.hd.ne_ H.out.sec (by decide)) (map_ne_blk H.out.map H.out.hd)
set_option maxRecDepth 100000 in
theorem sector_refuse {w : World} {col : Col} {c b : Nat} {d : Dev} (h : DevP w col c b d) (hp : Plain w col) (n : Int) (hn : -9223372036854775808 ≤ n ∧ n ≤ 9223372036854775807) :
    Calls Try.prog 47 #[.pointer (some ⟨b, 0, none⟩), .int .i64 n] w fun e w' =>
      e = .returned (.int .i64 (d.refuse n).2) ∧ Ext (· = c) w col w' col ∧ DevP w' col c b (d.refuse n).1 := by
  have h0 := h
  obtain ⟨bs, bm, kA, kc, D, h, k⟩ := h
  have z4 := h.hd.frozen 4
  have H := Lib.hid h
  clear h
  cases hd : d.dead
  · have e1 : d.refuse n = ({ d with til := max n (-1) }, 0) := by simp [Dev.refuse, hd]
    rw [e1]
    have HK := Lib.hid (H.out.ok.refuse hn.2)
    rw [e1] at HK
    clear e1
    go_enter Try.func47, Try.ntmps47
    go_wp2_with fail
    refine (sector_wrong h0).mono ?_
    rintro e w1 ⟨rfl, rfl⟩
    rw [hd, show deadE false = 0 from rfl]
    have c4 := H.out.c4
    go_wp2_with fail
    go_ret
    refine ⟨rfl, (Ext.refl hp).setCell _ _ (.inl k.b), bs, bm, kA, kc, D, ?_, k⟩
    exact H.out.head (d' := { d with til := max n (-1) }) (by simpa using H.out.hd.set_ 4 (.int .i64 (max n (-1)))) (fun q hq => Below.heap_setCell _ _ _ _ hq) (by simp) rfl rfl HK.out (H.out.hd.ne_ H.out.sec (by decide)) (map_ne_blk H.out.map H.out.hd)
  · have e1 : d.refuse n = (d, 100) := by simp [Dev.refuse, hd]
    rw [e1]
    clear e1
    go_enter Try.func47, Try.ntmps47
    go_wp2_with fail
    refine (sector_wrong h0).mono ?_
    rintro e w1 ⟨rfl, rfl⟩
    rw [hd, show deadE true = 100 from rfl]
    go_wp2_with fail
    go_ret
    exact ⟨rfl, Ext.refl hp, h0⟩
set_option maxRecDepth 100000 in
theorem sector_fail {w : World} {col : Col} {c b : Nat} {d : Dev} (h : DevP w col c b d) (hp : Plain w col) (n : Int) (hn : -9223372036854775808 ≤ n ∧ n ≤ 9223372036854775807)
    {A : Option Addr} {ks : List Int} (cap : Nat) (hks : Sl w A (ks.map intV)) (hsm : ks.length ≤ 17592186044416) (hin : ∀ x ∈ ks, -9223372036854775808 ≤ x ∧ x ≤ 9223372036854775807) :
    Calls Try.prog 45 #[.pointer (some ⟨b, 0, none⟩), .int .i64 n, .slice A ks.length cap] w fun e w' =>
      e = .returned (.int .i64 (d.fail n ks).2) ∧ ∃ col', Ext (· = c) w col w' col' ∧ DevP w' col' c b (d.fail n ks).1 := by
  have h0 := h
  obtain ⟨bs, bm, kA, kc, D, h, k⟩ := h
  have H := Lib.hid h
  have HL := Lib.hid hks
  clear h hks
  cases hd : d.dead
  · have e1 : d.fail n ks = ({ d with left := max n (-1), keep := ks }, 0) := by simp [Dev.fail, hd]
    rw [e1]
    have HK := Lib.hid (H.out.ok.fail hn.2 hin)
    rw [e1] at HK
    clear e1
    go_enter Try.func45, Try.ntmps45
    go_wp2_with fail
    refine (sector_wrong h0).mono ?_
    rintro e w1 ⟨rfl, rfl⟩
    rw [hd, show deadE false = 0 from rfl]
    go_wp2_with fail
    refine (ints_clone HL.out cap hsm).mono ?_
    rintro e w1 ⟨v, rfl, hown, hbel⟩
    obtain ⟨G, cp, rfl, hG, hcp, hGpos, hGbase⟩ := slice_of_own hown
    rw [List.length_map] at *
    have hex : Ext (fun _ => False) w col w1 col := .of_below hbel hp
    obtain ⟨h1, k1⟩ := H.out.ext k hex (fun h => h)
    have c2 := h1.c2
    have c3 := h1.c3
    have z2 := h1.hd.frozen 2
    have z3 := h1.hd.frozen 3
    have H1 := Lib.hid h1
    have HX := Lib.hid (And.intro hown (And.intro hbel (And.intro hG (And.intro hGpos (And.intro hGbase hex)))))
    clear h1 hown hbel hG hGpos hGbase hex
    go_wp2_with fail
    go_ret
    obtain ⟨hown, hbel, hG, hGpos, hGbase, hex⟩ := HX.out
    have hb2 := (H1.out.hd.set_ 2 (.int .i64 (max n (-1)))).set_ 3 (.slice G ks.length cp)
    have hbb := H1.out.hd.ne_ H1.out.sec (by decide)
    have hmb := map_ne_blk H1.out.map H1.out.hd
    have he2 : Ext (· = c) w col ((w1.setCell ⟨b, 2, none⟩ (.int .i64 (max n (-1)))).setCell ⟨b, 3, none⟩ (.slice G ks.length cp)) col := ((hex.mono (fun _ h => h.elim)).setCell _ _ (.inl k1.b)).setCell _ _ (.inl k1.b)
    have hcell : ∀ q, q ≠ b → ((w1.setCell ⟨b, 2, none⟩ (.int .i64 (max n (-1)))).setCell ⟨b, 3, none⟩ (.slice G ks.length cp)).heap[q]? = w1.heap[q]? := fun q hq => (Below.heap_setCell _ _ _ _ hq).trans (Below.heap_setCell _ _ _ _ hq)
    have hsz : w.heap.size ≤ w1.heap.size := hbel.size
    have hbw : b < w.heap.size := H.out.hd.lt
    have hbsw : bs < w.heap.size := H.out.sec.lt
    have hbmw : bm < w.heap.size := H.out.map.lt
    have hD : DevB ((w1.setCell ⟨b, 2, none⟩ (.int .i64 (max n (-1)))).setCell ⟨b, 3, none⟩ (.slice G ks.length cp)) b bs bm G cp D { d with left := max n (-1), keep := ks } := by
      refine ⟨by simpa using hb2, H1.out.sec.of (hcell bs (Ne.symm hbb)), ?_, H1.out.is, hG.of (fun q o e => hcell q ?_) (by simp), hcp, fun ad ha hpos => ?_, HK.out⟩
      · obtain ⟨es, clock, hm, F, hz, hD⟩ := H1.out.map
        exact ⟨es, clock, (hcell bm hmb).trans hm, F, hz, hD⟩
      · have := hGbase _ e
        simp only at this; omega
      · have := hGbase _ ha
        refine ⟨by omega, by omega, by omega⟩
    by_cases h0n : 0 < ks.length
    · obtain ⟨g, rfl, hg⟩ := hGpos h0n
      have hglt : g < w1.heap.size := hG.lt _ rfl (by simpa using h0n)
      refine ⟨rfl, Col.set col g c, he2.paint c hg (by simpa using hglt), bs, bm, _, cp, D, hD, ⟨?_, ?_, ?_, fun _ ad ha => ?_⟩⟩
      · rw [Col.set_other _ (by omega)]; exact k1.b
      · rw [Col.set_other _ (by omega)]; exact k1.bs
      · rw [Col.set_other _ (by omega)]; exact k1.bm
      · injection ha with ha; subst ha; exact Col.set_same ..
    · exact ⟨rfl, col, he2, bs, bm, _, cp, D, hD, ⟨k1.b, k1.bs, k1.bm, fun h => absurd h h0n⟩⟩
  · have e1 : d.fail n ks = (d, 100) := by simp [Dev.fail, hd]
    rw [e1]
    clear e1
    go_enter Try.func45, Try.ntmps45
    go_wp2_with fail
    refine (sector_wrong h0).mono ?_
    rintro e w1 ⟨rfl, rfl⟩
    rw [hd, show deadE true = 100 from rfl]
    go_wp2_with fail
    go_ret
    exact ⟨rfl, col, Ext.refl hp, h0⟩
def ReadEnd (w : World) (d : Dev) (i : Int) (e : Ending) (w' : World) : Prop :=
  ∃ v, e = .returned (.tuple #[v, .int .i64 (d.read i).2]) ∧ w'.ownsRow w.heap.size 5 1 v (d.read i).1.length (bytesV (d.read i).1) ∧ Below w.heap.size w w'
set_option maxRecDepth 100000 in
theorem sector_read {w : World} {col : Col} {c b : Nat} {d : Dev} (h : DevP w col c b d) (i : Int) :
    Calls Try.prog 10 #[.pointer (some ⟨b, 0, none⟩), .int .i64 i] w (ReadEnd w d i) := by
  have h0 := h
  obtain ⟨bs, bm, kA, kc, D, h, k⟩ := h
  have H := Lib.hid h
  clear h
  by_cases ha : d.at_ i = 0
  · have hix : 0 ≤ i ∧ i < d.l.length := by
      unfold Dev.at_ at ha
      split at ha
      · omega
      split at ha
      · omega
      · omega
    obtain ⟨n, rfl⟩ : ∃ n : Nat, i = (n : Int) := ⟨i.toNat, by omega⟩
    have hn : n < d.l.length := by omega
    have hlen : d.l[n].now.length = 128 := H.out.ok.now _ (List.getElem_mem _)
    have e1 : d.read (n : Int) = (d.l[n].now, 0) := by simp [Dev.read, ha, List.getD, hn]
    have HE := Lib.hid e1
    have hsl : Sl w (some ⟨bs, 128 * n, none⟩) (bytesV d.l[n].now) := Sl.of_blk H.out.sec (secV_range H.out.ok.now hn)
    have HS := Lib.hid hsl
    have c0 := H.out.c0
    have HL := Lib.hid hlen
    clear hsl hlen e1
    go_enter Try.func10, Try.ntmps10
    go_wp2_with fail
    refine (sector_at h0 _).mono ?_
    rintro e w1 ⟨rfl, rfl⟩
    rw [ha]
    go_wp2_with fail
    rw [show (128 : Nat) = d.l[n].now.length from HL.out.symm, Nat.mul_comm n, HL.out]
    have hcl := bytes_clone HS.out 128 (by rw [HL.out]; omega)
    rw [HL.out] at hcl
    refine hcl.mono ?_
    rintro e w1 ⟨v, rfl, hown, hbel⟩
    have HX := Lib.hid (And.intro hown hbel)
    clear hown hbel hcl
    go_wp2_with fail
    go_ret2
    refine ⟨_, by rw [HE.out]; rfl, ?_, HX.out.2⟩
    rw [HE.out, ← bytesV_len]; exact HX.out.1
  · have e1 : d.read i = ([], d.at_ i) := by simp [Dev.read, ha]
    have HE := Lib.hid e1
    have hb : (d.at_ i != 0) = true := by rw [bne_iff_ne]; exact ha
    clear ha e1
    go_enter Try.func10, Try.ntmps10
    go_wp2_with fail
    refine (sector_at h0 _).mono ?_
    rintro e w4 ⟨rfl, rfl⟩
    generalize hq : d.at_ i = q at *
    have HQ := Lib.hid hq
    clear hq
    go_wp2_with fail
    go_ret2
    exact ⟨_, by rw [HE.out]; rfl, by rw [HE.out]; exact ownsRow_nil .., Below.refl _ _⟩
end Go.Proofs.Ytfcialmdediojaa
