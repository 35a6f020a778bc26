/- Plain law of claims: one line, in which all ask once. -/
import Derived.Test.YtligkfaldaoocaaClmF
namespace Go.Proofs.Ytligkfaldaoocaa
set_option linter.unusedVariables false
open Go.RowKit

/-- One line alone, that nobody holds; .. that its first one holds. -/
def tS (k : Nat) (L : List Int) : CS := ⟨upd (fun _ => []) k L, fun _ => false⟩
def tH (k : Nat) (L : List Int) : CS := ⟨upd (fun _ => []) k L, upd (fun _ => false) k true⟩
def nxt (L : List Int) (p : Int) : List Int := if p ∈ L then L else L ++ [p]
theorem upd_upd {α : Type} (f : Nat → α) (k : Nat) (x y : α) : upd (upd f k x) k y = upd f k y := by
  funext i
  unfold upd
  split <;> rfl
theorem upd_same {α : Type} (f : Nat → α) (k : Nat) : upd f k (f k) = f := by
  funext i
  unfold upd
  split
  · next h => rw [h]
  · rfl
theorem tS_nil (k : Nat) : tS k [] = noC := by
  unfold tS noC
  congr 1
  funext i
  unfold upd
  split <;> rfl
theorem inE_one (h : Nat → Bool) {k : Nat} (hk : k < 4) (L : List Int) (p : Int) : inE ⟨upd (fun _ => []) k L, h⟩ p = if p ∈ L then some k else none := by
  rcases (by omega : k = 0 ∨ k = 1 ∨ k = 2 ∨ k = 3) with rfl | rfl | rfl | rfl <;> simp [inE, inFrom, upd]
theorem kOf_nat (k : Nat) : kOf (1 + (k : Int)) = k := by unfold kOf; omega
theorem ok_nat {p k : Nat} (hp : p < 4) (hk : k < 4) : okPR (p : Int) (1 + (k : Int)) := by unfold okPR; omega
section
variable {p k : Nat} {L : List Int}
theorem askE_tS (hp : p < 4) (hk : k < 4) : askE (tS k L) p (1 + (k : Int)) = 0 := by
  unfold askE
  rw [if_neg (by simpa using ok_nat hp hk), if_neg, if_neg]
  · simp [tS]
  · rintro ⟨h1, h2⟩
    rw [kOf_nat] at h2
    unfold tS at h1 h2
    rw [inE_one _ hk] at h1 h2
    by_cases hm : (p : Int) ∈ L
    · rw [if_pos hm] at h2; exact h2 rfl
    · rw [if_neg hm] at h1; cases h1
theorem askC_tS (hp : p < 4) (hk : k < 4) : askC (tS k L) p (1 + (k : Int)) = tS k (nxt L p) := by
  unfold askC
  rw [askE_tS hp hk, kOf_nat]
  have hi : inE (tS k L) p = if (p : Int) ∈ L then some k else none := inE_one _ hk L p
  by_cases hm : (p : Int) ∈ L
  · rw [if_neg (by rw [hi, if_pos hm]; simp), nxt, if_pos hm]
  · rw [if_pos ⟨rfl, by rw [hi, if_neg hm]⟩, nxt, if_neg hm]
    unfold tS
    simp only [upd_self, upd_upd]
theorem askB_tS (hp : p < 4) (hk : k < 4) : askB (tS k L) p (1 + (k : Int)) = isFirst (nxt L p) p := by
  unfold askB
  rw [askE_tS hp hk, if_pos rfl, askC_tS hp hk, kOf_nat]
  simp only [tS, upd_self]
theorem holdE_no (hp : p < 4) (hk : k < 4) (hf : isFirst L p = false) : holdE (tS k L) p (1 + (k : Int)) = 250 := by
  unfold holdE
  rw [if_neg (by simpa using ok_nat hp hk), kOf_nat, if_pos]
  simpa [tS, upd_self] using hf
theorem holdC_no (hp : p < 4) (hk : k < 4) (hf : isFirst L p = false) : holdC (tS k L) p (1 + (k : Int)) = tS k L := by
  unfold holdC
  rw [holdE_no hp hk hf]
  rfl
theorem holdE_yes (hp : p < 4) (hk : k < 4) (hf : isFirst L p = true) : holdE (tS k L) p (1 + (k : Int)) = 0 := by
  unfold holdE
  rw [if_neg (by simpa using ok_nat hp hk), kOf_nat, if_neg, if_neg]
  · simp [tS]
  · simpa [tS, upd_self] using hf
theorem holdC_yes (hp : p < 4) (hk : k < 4) (hf : isFirst L p = true) : holdC (tS k L) p (1 + (k : Int)) = tH k L := by
  unfold holdC
  rw [holdE_yes hp hk hf, if_pos rfl, kOf_nat]
  rfl
theorem giveE_yes (hp : p < 4) (hk : k < 4) (hf : isFirst L p = true) : giveE (tH k L) p (1 + (k : Int)) = 0 := by
  unfold giveE
  rw [if_neg (by simpa using ok_nat hp hk), kOf_nat, if_neg]
  simpa [tH, upd_self] using hf
theorem giveC_yes (hp : p < 4) (hk : k < 4) (hf : isFirst L p = true) : giveC (tH k L) p (1 + (k : Int)) = tS k (others L p) := by
  unfold giveC
  rw [giveE_yes hp hk hf, if_pos rfl]
  unfold dropC
  rw [show inE (tH k L) p = some k by unfold tH; rw [inE_one _ hk, if_pos (first_mem hf)]]
  show (⟨upd (tH k L).l k (others ((tH k L).l k) p), upd (tH k L).h k ((tH k L).h k && !isFirst ((tH k L).l k) p)⟩ : CS) = tS k (others L p)
  unfold tH tS
  simp only [upd_self, upd_upd, hf]
  congr 1
  funext i
  unfold upd
  split <;> rfl
theorem tS_len (hL : L.length < 1000000) : ∀ j, j < 4 → ((tS k L).l j).length < 1000000 := by
  intro j _
  show (upd (fun _ => []) k L j).length < 1000000
  unfold upd
  split
  · exact hL
  · simp
theorem lineL_tS (hk : k < 4) : lineL (tS k L) (1 + (k : Int)) = L := by
  unfold lineL
  rw [if_pos (by omega), show (1 + (k : Int)).toNat - 1 = k by omega]
  show upd (fun _ => []) k L k = L
  exact upd_self _ _ _
end
/-- Rows of partitions, each once. -/
structure Row1 (L : List Int) (m : Nat) : Prop where
  nd : L.Nodup
  is : ∀ x ∈ L, 0 ≤ x ∧ x < 4
  len : L.length ≤ m
section
variable {L : List Int} {m : Nat}
theorem Row1.nxt (h : Row1 L m) {p : Nat} (hp : p < 4) : Row1 (nxt L p) (m + 1) := by
  unfold Go.Proofs.Ytligkfaldaoocaa.nxt
  by_cases hm : (p : Int) ∈ L
  · rw [if_pos hm]
    exact ⟨h.nd, h.is, by have := h.len; omega⟩
  · rw [if_neg hm]
    refine ⟨?_, fun x hx => ?_, by have := h.len; simp; omega⟩
    · rw [List.nodup_append]
      refine ⟨h.nd, by simp, fun a ha b hb => ?_⟩
      rw [List.mem_singleton] at hb
      subst hb
      rintro rfl
      exact hm ha
    · rcases List.mem_append.1 hx with hx | hx
      · exact h.is x hx
      · rw [List.mem_singleton] at hx
        omega
theorem Row1.at (h : Row1 L m) {i : Nat} {x : Int} (hx : L[i]? = some x) : ∃ p : Nat, x = p ∧ p < 4 := by
  have := h.is x (List.mem_of_getElem? hx)
  exact ⟨x.toNat, by omega, by omega⟩
theorem first_at {i : Nat} {x : Int} (hx : L[i]? = some x) : isFirst (L.drop i) x = true := by
  unfold isFirst
  rw [List.head?_drop, hx]
  simp
theorem first_next (h : Row1 L m) {i : Nat} {x : Int} (hx : L[i + 1]? = some x) : isFirst (L.drop i) x = false := by
  unfold isFirst
  rw [List.head?_drop]
  have hi : i + 1 < L.length := (List.getElem?_eq_some_iff.1 hx).1
  have h2 : L[i + 1] = x := (List.getElem?_eq_some_iff.1 hx).2
  rw [List.getElem?_eq_getElem (by omega)]
  have hn : (L.drop i).Nodup := h.nd.sublist (List.drop_sublist i L)
  rw [List.drop_eq_getElem_cons (by omega), List.nodup_cons] at hn
  have hm : x ∈ L.drop (i + 1) := List.mem_of_getElem? (i := 0) (by rw [List.getElem?_drop]; exact hx)
  simp only [Option.some_beq_some, beq_eq_false_iff_ne]
  rintro e
  exact hn.1 (e ▸ hm)
theorem others_at (h : Row1 L m) {i : Nat} {x : Int} (hx : L[i]? = some x) : others (L.drop i) x = L.drop (i + 1) := by
  have hi : i < L.length := (List.getElem?_eq_some_iff.1 hx).1
  have h2 : L[i] = x := (List.getElem?_eq_some_iff.1 hx).2
  have hd : L.drop i = x :: L.drop (i + 1) := by rw [List.drop_eq_getElem_cons hi, h2]
  have hn : (L.drop i).Nodup := h.nd.sublist (List.drop_sublist i L)
  rw [hd] at hn ⊢
  unfold others
  rw [List.filter_cons, if_neg (by simp)]
  exact others_none (List.nodup_cons.1 hn).1
theorem nxt_ne (L : List Int) (p : Int) : nxt L p ≠ [] := by
  unfold nxt
  split
  · next h => intro e; rw [e] at h; cases h
  · simp
theorem first_eq {x : Int} (p : Int) (h : L[0]? = some x) : isFirst L p = (x == p) := by
  unfold isFirst
  rw [List.head?_eq_getElem?, h]
  simp
theorem take_in {L : List Int} {k : Nat} {x : Int} (p : Int) (h : L[k]? = some x) : decide (p ∈ L.take (k + 1)) = (decide (p ∈ L.take k) || (x == p)) := by
  rw [List.take_add_one, h]
  by_cases hm : p ∈ L.take k
  · simp [hm]
  · by_cases e : x = p
    · subst e; simp [hm]
    · simp [hm, e, Ne.symm e]
end
end Go.Proofs.Ytligkfaldaoocaa
