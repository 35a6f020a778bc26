/- Lists of acts in memory: a slice that came in, clones; the program's row: Next, Done, Left, Rest, New. -/
import Derived.Test.YtomadlopljfcmaaRowA
import Derived.Test.YtomadlopljfcmaaApp
import Derived.Test.YtomadlopljfcmaaActC2
import Derived.Lib.SliceRun
namespace Go.Proofs.Ytomadlopljfcmaa
set_option linter.unusedVariables false
open Go.RowKit

/-- A slice value that reads as a list of acts. -/
def OpsR (w : World) (A : Option Addr) (L : List OpV) : Prop := L ≠ [] → ∃ b off, A = some ⟨b, off, none⟩ ∧ b < w.heap.size ∧ ∀ i x, L[i]? = some x → OpAt w b (off + i * 3) x
theorem OpsR.below {w w' : World} {A : Option Addr} {L : List OpV} (h : OpsR w A L) (hB : Below w.heap.size w w') : OpsR w' A L := fun hL => by
  obtain ⟨b, off, hA, hb, hx⟩ := h hL
  exact ⟨b, off, hA, Nat.lt_of_lt_of_le hb hB.size, fun i x hi => (hx i x hi).keep fun p hp => hB.cell (by rw [hp]; exact hb)⟩
def opCells : List OpV → List Value
  | [] => []
  | x :: L => .int .i64 x.k :: .int .i64 x.n :: .string x.s :: opCells L
theorem opCells_length : ∀ L : List OpV, (opCells L).length = L.length * 3
  | [] => rfl
  | x :: L => by simp only [opCells, List.length_cons, opCells_length L]; omega
theorem opCells_one : ∀ L : List OpV, ∀ u ∈ opCells L, u.oneCell' = true
  | [], u, h => by cases h
  | x :: L, u, h => by
    simp only [opCells, List.mem_cons] at h
    rcases h with rfl | rfl | rfl | h
    · rfl
    · rfl
    · rfl
    · exact opCells_one L u h
theorem opCells_get : ∀ (L : List OpV) (i : Nat) (x : OpV), L[i]? = some x → (opCells L)[i * 3]? = some (.int .i64 x.k) ∧ (opCells L)[i * 3 + 1]? = some (.int .i64 x.n) ∧ (opCells L)[i * 3 + 2]? = some (.string x.s)
  | [], i, x, h => by simp at h
  | y :: L, 0, x, h => by
    simp only [List.getElem?_cons_zero, Option.some.injEq] at h
    subst h
    exact ⟨rfl, rfl, rfl⟩
  | y :: L, i + 1, x, h => by
    have := opCells_get L i x (by simpa using h)
    rw [show (i + 1) * 3 = i * 3 + 1 + 1 + 1 by omega]
    simpa [opCells, Nat.add_assoc] using this
theorem opCells_back : ∀ (L : List OpV) (j : Nat) (u : Value), (opCells L)[j]? = some u → ∃ i x, L[i]? = some x ∧ ((j = i * 3 ∧ u = .int .i64 x.k) ∨ (j = i * 3 + 1 ∧ u = .int .i64 x.n) ∨ (j = i * 3 + 2 ∧ u = .string x.s))
  | [], j, u, h => by simp [opCells] at h
  | y :: L, 0, u, h => by simp [opCells] at h; exact ⟨0, y, rfl, .inl ⟨rfl, h.symm⟩⟩
  | y :: L, 1, u, h => by simp [opCells] at h; exact ⟨0, y, rfl, .inr (.inl ⟨rfl, h.symm⟩)⟩
  | y :: L, 2, u, h => by simp [opCells] at h; exact ⟨0, y, rfl, .inr (.inr ⟨rfl, h.symm⟩)⟩
  | y :: L, j + 3, u, h => by
    obtain ⟨i, x, hi, hu⟩ := opCells_back L j u (by simpa [opCells] using h)
    exact ⟨i + 1, x, by simpa using hi, by rcases hu with ⟨h1, h2⟩ | ⟨h1, h2⟩ | ⟨h1, h2⟩ <;> simp [h1, h2] <;> omega⟩
/-- .. as a source of an append. -/
theorem OpsR.src {w : World} {A : Option Addr} {L : List OpV} {c : Nat} (h : OpsR w A L) (hA : A = none → c = 0) : SrcR w 3 A L.length c (opCells L) := by
  refine ⟨opCells_length L, ?_⟩
  cases L with
  | nil =>
    cases A with
    | none => exact .inl ⟨rfl, rfl, hA rfl⟩
    | some a => exact .inr ⟨a, rfl, fun j u hj => by simp [opCells] at hj⟩
  | cons x L =>
    obtain ⟨b, off, rfl, _, hx⟩ := h (by simp)
    refine .inr ⟨_, rfl, fun j u hj => ?_⟩
    obtain ⟨i, y, hi, hu⟩ := opCells_back _ _ _ hj
    have hy := hx i y hi
    have hadd : ∀ k, (⟨b, off, none⟩ : Addr).add k = ⟨b, off + k, none⟩ := fun k => by
      unfold Addr.add
      split
      · next h0 => subst h0; rfl
      · rfl
    rw [hadd]
    rcases hu with ⟨rfl, rfl⟩ | ⟨rfl, rfl⟩ | ⟨rfl, rfl⟩
    · exact hy.1
    · exact hy.2.1
    · exact hy.2.2
/-- A fresh copy: a slice of the call's own, from block B on, that holds the list. -/
def FreshOps (w : World) (B : Nat) (A : Option Addr) (c : Nat) (b : Nat) (L : List OpV) : Prop :=
  L.length ≤ c ∧ c ≤ maxLen ∧ (A = none → L = [] ∧ c = 0) ∧ (A ≠ none → B ≤ b ∧ A = some ⟨b, 0, none⟩ ∧ OpsIn w b 0 L)
theorem fresh_of_own {w : World} {B n : Nat} {v : Value} {L : List OpV} (h : w.ownsRow B 29 3 v n (opCells L)) :
    ∃ A c b, v = .slice A L.length c ∧ FreshOps w B A c b L := by
  have hn : n = L.length := by
    have := h.1
    rw [opCells_length] at this
    omega
  subst hn
  obtain ⟨A, c, rfl, h1, h2, h3, h4⟩ := own_form h
  cases A with
  | none =>
    have h3' := h3 rfl
    exact ⟨none, c, 0, rfl, h1, h2, fun _ => ⟨List.eq_nil_of_length_eq_zero h3'.1, h3'.2⟩, fun h => absurd rfl h⟩
  | some a =>
    obtain ⟨g, cur, rfl, hg, hb, hs, ht⟩ := h4 a rfl
    refine ⟨some ⟨g, 0, none⟩, c, g, rfl, h1, h2, (fun h => by cases h), fun _ => ⟨hg, rfl, ⟨cur, hb⟩, fun i x hi => ?_⟩⟩
    obtain ⟨e0, e1, e2⟩ := opCells_get L i x hi
    refine ⟨?_, ?_, ?_⟩
    · rw [hb.cell]; simpa using take_at ht e0
    · rw [hb.cell, show 0 + i * 3 + 1 = i * 3 + 1 by omega]; exact take_at ht e1
    · rw [hb.cell, show 0 + i * 3 + 2 = i * 3 + 2 by omega]; exact take_at ht e2
theorem FreshOps.reads {w : World} {B c b : Nat} {A : Option Addr} {L : List OpV} (h : FreshOps w B A c b L) : OpsR w A L := fun hL => by
  have hA : A ≠ none := fun e => hL (h.2.2.1 e).1
  obtain ⟨_, h2, h3⟩ := h.2.2.2 hA
  obtain ⟨C, hC⟩ := h3.1
  exact ⟨b, 0, h2, hC.lt, h3.2⟩
theorem RowA.reads {w : World} {g b : Nat} {L : List OpV} {A : Option Addr} {off : Nat} (h : L ≠ [] → A = some ⟨b, off, none⟩ ∧ OpsIn w b off L) : OpsR w A L := fun hL => by
  obtain ⟨h1, ⟨C, hC⟩, h3⟩ := h hL
  exact ⟨b, off, h1, hC.lt, h3⟩
theorem op_info : (Try.prog.info? 29).map (fun i => (i.zero, i.size, i.bytes)) = some (some (.agg #[.int .i64 0, .int .i64 0, .string ByteArray.empty]), 3, 32) := by kernel_rfl
set_option maxHeartbeats 400000 in
theorem clone_some (a : Addr) (n c : Nat) (L : List OpV) (w : World) (hn : n = L.length) (hl : L.length ≤ 65536) (h : OpsR w (some a) L) :
    Calls Try.prog 49 #[.slice (some a) n c] w fun e w' => ∃ A' c' b', e = .returned (.slice A' L.length c') ∧ FreshOps w' w.heap.size A' c' b' L ∧ Below w.heap.size w w' := by
  obtain ⟨i0, hi0, hz0, hz1, hz2⟩ := info_parts op_info
  have hsl : Hid (SrcR (w.alloc (.cells #[] 29)) 3 (some a) n c (opCells L)) := by
    rw [hn]; exact (h.below ((Below.refl _ _).alloc (Nat.le_refl _) _)).src (fun e => by cases e)
  have hnb : n ≤ 65536 := by omega
  have Hn := Lib.hid hn
  clear h hn hl
  have he := fun W => Lib.run_eql_slice_nil (P := Try.prog) W 30 29 (some a) n c 0 0 Try.underlying30
  go_enter Try.func49, Try.ntmps49
  go_wp2_with (at_builtin; refine wpList_append_src rfl _ _ _ rfl w.heap.size 29 i0 _ 3 32 Try.underlying30 hi0 hz0 hz1 hz2 rfl (by omega) (.slice (some ⟨w.heap.size, 0, none⟩) 0 0) 0 [] rfl (own_empty w _ _ _ (Nat.le_refl _)) _ _ _ (opCells L) rfl hsl.out (opCells_one L) (by simp only [maxLen]; omega) (by omega) (by simp) ?_; intro v1 w1 hown hg _)
  go_ret
  have hb : Below w.heap.size w w1 := below_grown ((Below.refl _ _).alloc (Nat.le_refl _) _) hg (by simp) (by simp [Value.ownBlock])
  obtain ⟨A', c', b', rfl, hF⟩ := fresh_of_own (L := L) (by simpa using hown)
  exact ⟨A', c', b', rfl, hF, hb⟩
theorem clone_none (w : World) :
    Calls Try.prog 49 #[.slice none 0 0] w fun e w' => e = .returned (.slice none 0 0) ∧ w = w' := by
  have he := fun W => Lib.run_eql_slice_nil (P := Try.prog) W 30 29 none 0 0 0 0 Try.underlying30
  go_enter Try.func49, Try.ntmps49
  go_wp2
  go_ret
  exact ⟨rfl, rfl⟩
theorem clone_c (A : Option Addr) (n c : Nat) (L : List OpV) (w : World) (hn : n = L.length) (hl : L.length ≤ 65536) (h : OpsR w A L) (hA : A = none → c = 0) :
    Calls Try.prog 49 #[.slice A n c] w fun e w' => ∃ A' c' b', e = .returned (.slice A' L.length c') ∧ FreshOps w' w.heap.size A' c' b' L ∧ Below w.heap.size w w' := by
  cases A with
  | some a => exact clone_some a n c L w hn hl h
  | none =>
    have hL : L = [] := by
      cases L with
      | nil => rfl
      | cons x L => obtain ⟨b, off, e, _⟩ := h (by simp); cases e
    subst hL
    obtain rfl : n = 0 := hn
    obtain rfl := hA rfl
    exact (clone_none w).mono fun e w' ⟨he, hw⟩ => ⟨none, 0, 0, he, ⟨Nat.le_refl _, by simp [maxLen], fun _ => ⟨rfl, rfl⟩, fun h => absurd rfl h⟩, hw ▸ Below.refl _ _⟩

/-! ### New -/
theorem new_fn (x : OpV) (w : World) :
    Calls Try.prog 47 #[.agg #[.int .i64 x.k, .int .i64 x.n, .string x.s]] w fun e w' => e = .returned (.bool (!okOp x)) ∧ Below w.heap.size w w' := by
  cases hx : okOp x with
  | true =>
    have hc : checkE x = 0 := by simp [checkE, hx]
    have HC := Lib.hid hc
    clear hc hx
    go_enter Try.func47, Try.ntmps47
    go_wp2_with (go_at_call 48; refine (lift (a := w) (check_a x _) ((Below.refl _ _).alloc (Nat.le_refl _) _)).mono ?_; rw [HC.out]; rintro e w1 ⟨rfl, hB⟩)
    go_ret
    exact ⟨rfl, hB⟩
  | false =>
    have hc : checkE x = 2 := by simp [checkE, hx]
    have HC := Lib.hid hc
    clear hc hx
    go_enter Try.func47, Try.ntmps47
    go_wp2_with (go_at_call 48; refine (lift (a := w) (check_a x _) ((Below.refl _ _).alloc (Nat.le_refl _) _)).mono ?_; rw [HC.out]; rintro e w1 ⟨rfl, hB⟩)
    go_ret
    exact ⟨rfl, hB⟩
/-- The place of the first act that may not be; -1: none. -/
def badAt : List OpV → Nat → Int
  | [], _ => -1
  | x :: L, i => if okOp x then badAt L (i + 1) else i
theorem badAt_drop (L : List OpV) (k : Nat) (x : OpV) (h : L[k]? = some x) : badAt (L.drop k) k = if okOp x then badAt (L.drop (k + 1)) (k + 1) else k := by
  have hk : k < L.length := (List.getElem?_eq_some_iff.1 h).1
  have hx : L[k] = x := (List.getElem?_eq_some_iff.1 h).2
  rw [List.drop_eq_getElem_cons hk, hx]
  rfl
def okAll (L : List OpV) : Bool := L.all okOp
theorem badAt_ok : ∀ (L : List OpV) (i : Nat), decide (0 ≤ badAt L i) = !okAll L
  | [], i => by simp [badAt, okAll]
  | x :: L, i => by
    have := badAt_ok L (i + 1)
    by_cases hx : okOp x = true
    · have e : badAt (x :: L) i = badAt L (i + 1) := if_pos hx
      rw [e, this]; simp [okAll, hx]
    · have e : badAt (x :: L) i = i := if_neg hx
      rw [e]; simp [okAll, hx]
set_option maxHeartbeats 400000 in
theorem index_c (A : Option Addr) (c : Nat) (L : List OpV) (w : World) (hl : L.length ≤ 65536) (h : OpsR w A L) :
    Calls Try.prog 61 #[.slice A L.length c, .func (.func 47) #[] #[]] w fun e w' => e = .returned (.int .i64 (badAt L 0)) ∧ Below w.heap.size w w' := by
  have H := Lib.hid h
  clear h
  go_enter Try.func61, Try.ntmps61
  go_wp2
  go_loopw [8] (fun x wr => ∃ k : Nat, k ≤ L.length ∧ x = .int .i64 k ∧ badAt L 0 = badAt (L.drop k) k ∧ Below w.heap.size w wr) (fun x _ => L.length - (intOf x).toNat)
  case atStart => exact ⟨0, Nat.zero_le _, rfl, rfl, Below.refl _ _⟩
  case round =>
    obtain ⟨k, hk, rfl, hbad, hB⟩ := hrel
    have HBad := Lib.hid hbad
    clear hbad
    by_cases hlt : k < L.length
    · obtain ⟨b, off, rfl, hb, hx⟩ := H.out (by intro e; rw [e] at hlt; simp at hlt)
      obtain ⟨x, hxk⟩ : ∃ x, L[k]? = some x := ⟨_, List.getElem?_eq_getElem hlt⟩
      obtain ⟨o0, o1, o2⟩ := (hx k x hxk).keep (w' := wr) (fun p hp => hB.cell (by rw [hp]; exact hb))
      have HD := Lib.hid (badAt_drop L k x hxk)
      clear hx hxk
      have hltI : (k : Int) < (L.length : Nat) := by omega
      cases hok : okOp x with
      | true =>
        have Hok := Lib.hid hok
        clear hok
        go_wp2_with (go_at_call 47; refine (lift (a := w) (new_fn x _) hB).mono ?_; rw [Hok.out]; clear hB; rintro e w1 ⟨rfl, hB⟩)
        go_roundw
        case rel => exact ⟨k + 1, by omega, rfl, by rw [HBad.out, HD.out, if_pos Hok.out], hB⟩
        case measure => simp [intOf]; omega
      | false =>
        have Hok := Lib.hid hok
        clear hok
        go_wp2_with (go_at_call 47; refine (lift (a := w) (new_fn x _) hB).mono ?_; rw [Hok.out]; clear hB; rintro e w1 ⟨rfl, hB⟩)
        go_ret
        exact ⟨ret_int (by rw [HBad.out, HD.out, Hok.out]; rfl), hB⟩
    · obtain rfl : L.length = k := by omega
      go_wp2
      go_ret
      exact ⟨ret_int (by rw [HBad.out, List.drop_length]; rfl), hB⟩
theorem contains_c (A : Option Addr) (c : Nat) (L : List OpV) (w : World) (hl : L.length ≤ 65536) (h : OpsR w A L) :
    Calls Try.prog 46 #[.slice A L.length c, .func (.func 47) #[] #[]] w fun e w' => e = .returned (.bool (!okAll L)) ∧ Below w.heap.size w w' := by
  have HO := Lib.hid (badAt_ok L 0)
  go_enter Try.func46, Try.ntmps46
  go_wp2_with (go_at_call 61; refine (index_c A c L _ hl h).mono ?_; rintro e w1 ⟨rfl, hB⟩)
  go_ret
  exact ⟨ret_bool HO.out, hB⟩
/-- What New answers: an error's number. -/
def newE (L : List OpV) : Int := if 32 < L.length then 5 else if okAll L then 0 else 2
theorem newE_ok (L : List OpV) (h : newE L = 0) : OkRow L := by
  unfold newE at h
  split at h
  · omega
  · split at h
    · rename_i h1 h2
      exact ⟨by omega, fun x hx => by simp only [okAll, List.all_eq_true] at h2; exact h2 x hx⟩
    · omega
theorem newE_cases (L : List OpV) : newE L = 0 ∨ newE L = 2 ∨ newE L = 5 := by unfold newE; (repeat' split) <;> omega
theorem new_bad (A : Option Addr) (c : Nat) (L : List OpV) (w : World) (hl : L.length ≤ 65536) (h : OpsR w A L) (he : newE L ≠ 0) :
    Calls Try.prog 29 #[.slice A L.length c] w fun e w' => e = .returned (.tuple #[.pointer none, .int .i64 (newE L)]) ∧ Below w.heap.size w w' := by
  by_cases h32 : 32 < L.length
  · have E : Hid (newE L = 5) := if_pos h32
    clear he
    have h32' : (32 : Int) < (L.length : Nat) := by omega
    go_enter Try.func29, Try.ntmps29
    go_wp2
    go_ret2
    exact ⟨by rw [E.out]; rfl, Below.refl _ _⟩
  · have hok : okAll L = false := by
      unfold newE at he
      rw [if_neg h32] at he
      split at he
      · exact absurd rfl he
      · rename_i h; simpa using h
    have E : Hid (newE L = 2) := by show newE L = 2; unfold newE; rw [if_neg h32, hok]; rfl
    have Hok := Lib.hid hok
    clear he hok
    have h32' : ((L.length : Nat) : Int) ≤ 32 := by omega
    go_enter Try.func29, Try.ntmps29
    go_wp2_with (go_at_call 46; refine (contains_c A c L _ hl h).mono ?_; rw [Hok.out]; rintro e w1 ⟨rfl, hB⟩)
    go_ret2
    exact ⟨by rw [E.out]; rfl, hB⟩
theorem new_a (A : Option Addr) (c : Nat) (L : List OpV) (w : World) (h : OpsR w A L) (hA : A = none → c = 0) (he : newE L = 0) :
    Calls Try.prog 29 #[.slice A L.length c] w fun e w' => ∃ g b, e = .returned (.tuple #[.pointer (some ⟨g, 0, none⟩), .int .i64 0]) ∧ RowA w' g b L ∧ w.heap.size ≤ g ∧ w.heap.size ≤ b ∧ g < w'.heap.size ∧ b < w'.heap.size ∧ Below w.heap.size w w' := by
  have hok := newE_ok L he
  have hall : okAll L = true := by
    unfold newE at he
    split at he
    · omega
    · split at he
      · assumption
      · omega
  have Hok := Lib.hid hall
  have h32 : ((L.length : Nat) : Int) ≤ 32 := by have := hok.1; omega
  have hl : L.length ≤ 65536 := by have := hok.1; omega
  clear he hall hok
  go_enter Try.func29, Try.ntmps29
  go_wp2_with (first
    | (go_at_call 46; refine (contains_c A c L _ hl h).mono ?_; rw [Hok.out]; rintro e w1 ⟨rfl, hB⟩)
    | (go_at_call 49; refine (clone_c A _ c L _ rfl hl (h.below hB) hA).mono ?_; rintro e w2 ⟨A', c', b', rfl, hF, hB2⟩))
  go_ret2
  have hblk := Blk.new w2 74 #[.slice A' L.length c', .bool true]
  have hB3 : Below w.heap.size w w2 := below_lift hB hB2 hB.size
  have hB4 := hB3.alloc hB3.size (.cells #[.slice A' L.length c', .bool true] 74)
  by_cases hn : A' = none
  · have hL := (hF.2.2.1 hn).1
    subst hL
    exact ⟨w2.heap.size, w2.heap.size, rfl, ⟨A', c', 0, hblk, hF.1, fun h => absurd rfl h, fun h => (hF.2.2.1 h).2⟩, hB3.size, hB3.size, by simp, by simp, hB4⟩
  · obtain ⟨f1, f2, f3⟩ := hF.2.2.2 hn
    obtain ⟨C, hC⟩ := f3.1
    have hlt := hC.lt
    refine ⟨w2.heap.size, b', rfl, ⟨A', c', 0, hblk, hF.1, fun _ => ⟨f2, f3.keep (Below.heap_alloc _ _ _ hlt)⟩, fun h => (hF.2.2.1 h).2⟩, hB3.size, Nat.le_trans hB.size f1, by simp, by simp; omega, hB4⟩
end Go.Proofs.Ytomadlopljfcmaa
