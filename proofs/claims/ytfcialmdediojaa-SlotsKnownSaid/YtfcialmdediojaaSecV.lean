/-
  Lists of sectors as cells. No program stands here.
-/
import Derived.Test.YtfcialmdediojaaBase
import Derived.Test.YtfcialmdediojaaDev
namespace Go.Proofs.Ytfcialmdediojaa
set_option linter.unusedVariables false
set_option linter.unusedSimpArgs false
open Go.RowKit
def secV (l : List Sec) : List Value := l.flatMap fun s => bytesV s.now
def All128 (l : List Sec) : Prop := ∀ s ∈ l, s.now.length = 128
theorem secV_len : ∀ {l : List Sec}, All128 l → (secV l).length = 128 * l.length
  | [], _ => rfl
  | s :: r, h => by
    have h1 := h s (List.mem_cons_self ..)
    have ih := secV_len (l := r) fun t ht => h t (List.mem_cons_of_mem _ ht)
    unfold secV at ih ⊢
    rw [List.flatMap_cons, List.length_append, ih, bytesV_len, h1, List.length_cons]; omega
theorem secV_get : ∀ {l : List Sec}, All128 l → ∀ q r, r < 128 → (secV l)[128 * q + r]? = (l[q]?).bind fun s => (bytesV s.now)[r]?
  | [], _, q, r, _ => by simp [secV]
  | s :: t, h, q, r, hr => by
    have h1 : (bytesV s.now).length = 128 := by rw [bytesV_len]; exact h s (List.mem_cons_self ..)
    have ih := secV_get (l := t) (fun t ht => h t (List.mem_cons_of_mem _ ht))
    have e : secV (s :: t) = bytesV s.now ++ secV t := rfl
    rw [e]
    cases q with
    | zero => rw [List.getElem?_append_left (by omega)]; simp
    | succ q =>
      rw [List.getElem?_append_right (by omega), h1, show 128 * (q + 1) + r - 128 = 128 * q + r from by omega, ih q r hr]
      simp
theorem secV_div {l : List Sec} (h : All128 l) (j : Nat) : (secV l)[j]? = (l[j / 128]?).bind fun s => (bytesV s.now)[j % 128]? := by
  have := secV_get h (j / 128) (j % 128) (Nat.mod_lt _ (by omega))
  rwa [Nat.div_add_mod] at this
theorem All128.modify {l : List Sec} (h : All128 l) (i : Nat) (f : Sec → Sec) (hf : ∀ s, s.now.length = 128 → (f s).now.length = 128) : All128 (l.modify i f) := fun s hs => by
  obtain ⟨j, hj, rfl⟩ := List.getElem_of_mem hs
  rw [List.getElem_modify]
  have hj' : j < l.length := by simpa using hj
  have hm := h (l[j]'hj') (List.getElem_mem _)
  split
  · exact hf _ hm
  · exact hm
theorem all_lost {keep : List Int} {xs : List Nat} {k : Nat} {l : List Sec} (h : ∀ s ∈ l, s.now.length = 128) (h2 : ∀ s ∈ l, s.sure.length = 128) : All128 (lostSteps keep xs k l) := lost_all xs k h h2
/-- one sector's bytes are stored -/
theorem secV_put {l : List Sec} (h : All128 l) {i : Nat} (hi : i < l.length) (f : Sec → Sec) (hf : ∀ s, s.now.length = 128 → (f s).now.length = 128) (b : List UInt8) (hb : (f l[i]).now = b) :
    putL (secV l).toArray (128 * i) (bytesV b) = (secV (l.modify i f)).toArray := by
  have hbl : b.length = 128 := by rw [← hb]; exact hf _ (h _ (List.getElem_mem _))
  have hl := secV_len h
  have hl' := secV_len (h.modify i f hf)
  rw [List.length_modify] at hl'
  apply Array.ext_getElem?
  intro j
  rw [putL_get, bytesV_len, hbl, List.size_toArray, hl, List.getElem?_toArray, List.getElem?_toArray, secV_div h, secV_div (h.modify i f hf)]
  by_cases hj : j / 128 = i
  · have hm : (l.modify i f)[j / 128]? = some (f l[i]) := by rw [hj]; simp [hi]
    rw [if_pos (by omega), hm]
    show _ = (bytesV (f l[i]).now)[j % 128]?
    rw [hb]; congr 1; omega
  · rw [if_neg (by omega)]
    have hm : (l.modify i f)[j / 128]? = l[j / 128]? := by rw [List.getElem?_modify]; cases l[j / 128]? <;> simp [Ne.symm hj]
    rw [hm]
theorem secV_now {l l' : List Sec} (h : l.map Sec.now = l'.map Sec.now) : secV l = secV l' := by
  have e : ∀ l : List Sec, secV l = (l.map Sec.now).flatMap bytesV := fun l => by
    unfold secV
    rw [List.flatMap_map]
  rw [e, e, h]
theorem secV_mod (L : List Sec) (i : Nat) (f : Sec → Sec) (h : All128 L) (hi : i < L.length) {b : List UInt8} (hb : b.length = 128) (hf : f = fun s => { s with now := b } := by rfl) :
    putL (secV L).toArray (128 * i) (bytesV b) = (secV (L.modify i f)).toArray := by
  subst hf
  exact secV_put h hi _ (fun _ _ => hb) b rfl
theorem secV_range {l : List Sec} (h : All128 l) {i : Nat} (hi : i < l.length) : ∀ j, j < (bytesV l[i].now).length → (secV l).toArray[128 * i + j]? = (bytesV l[i].now)[j]? := fun j hj => by
  rw [bytesV_len, h _ (List.getElem_mem _)] at hj
  rw [List.getElem?_toArray, secV_get h i j hj]; simp [hi]
end Go.Proofs.Ytfcialmdediojaa
