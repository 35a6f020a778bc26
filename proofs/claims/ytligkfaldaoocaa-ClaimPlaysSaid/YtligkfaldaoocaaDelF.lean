/- slices.Index, Contains, IndexFunc, DeleteFunc over numbers of the call's own; the closure that asks for one number. -/
import Derived.Test.YtligkfaldaoocaaIntB
import Derived.Deep.CutBlock
import Derived.Deep.DeepCutAuto
namespace Go.Proofs.Ytligkfaldaoocaa
set_option linter.unusedVariables false
open Go.RowKit

/-- The first place of a number; -1: none. -/
def IdxQ (L : List Int) (p z : Int) : Prop := (z = -1 ∧ p ∉ L) ∨ ∃ k : Nat, z = k ∧ L[k]? = some p ∧ p ∉ L.take k
theorem IdxQ.mem {L : List Int} {p z : Int} (h : IdxQ L p z) : decide (0 ≤ z) = decide (p ∈ L) := by
  rcases h with ⟨rfl, h⟩ | ⟨k, rfl, h, _⟩
  · simp [h]
  · have : p ∈ L := List.mem_of_getElem? h
    simp [this]
theorem IdxQ.none {L : List Int} {p z : Int} (h : IdxQ L p z) (hp : p ∉ L) : z = -1 := by
  rcases h with ⟨h1, _⟩ | ⟨k, _, h2, _⟩
  · exact h1
  · exact absurd (List.mem_of_getElem? h2) hp
theorem IdxQ.some_ {L : List Int} {p z : Int} (h : IdxQ L p z) (hp : p ∈ L) : ∃ k : Nat, z = k ∧ Hid (L[k]? = some p ∧ p ∉ L.take k) ∧ k < L.length ∧ ((k : Int) == -1) = false := by
  rcases h with ⟨_, h1⟩ | ⟨k, h1, h2, h3⟩
  · exact absurd hp h1
  · exact ⟨k, h1, Lib.hid ⟨h2, h3⟩, (List.getElem?_eq_some_iff.1 h2).1, by simp⟩
theorem zeroint (w : World) : (zeroValue 3).run Try.prog w = .ok (.int .i64 0) w := by kernel_rfl
theorem lt_of_cell {w : World} {a : Addr} {v : Value} (h : w.cell? a = some v) : a.block < w.heap.size := by
  rcases Nat.lt_or_ge a.block w.heap.size with hlt | hge
  · exact hlt
  · simp [World.cell?, Array.getElem?_eq_none hge] at h
theorem notin_succ {L : List Int} {p x : Int} {k : Nat} (h : p ∉ L.take k) (hx : L[k]? = some x) (hn : p ≠ x) : p ∉ L.take (k + 1) := by
  rw [List.take_add_one, hx]
  simp [h, hn]
theorem index_c (A : Option Addr) (c : Nat) (L : List Int) (p : Int) (w : World) (h : IntsR w A L) (hm : L.length ≤ 17592186044416) :
    Calls Try.prog 40 #[.slice A L.length c, .int .i64 p] w fun e w' => ∃ z, e = .returned (.int .i64 z) ∧ IdxQ L p z ∧ w = w' := by
  have HR := Lib.hid h
  clear h
  go_enter Try.func40, Try.ntmps40
  go_wp2
  go_loopw [8] (fun x wr => ∃ k : Nat, x = .int .i64 k ∧ Hid (k ≤ L.length ∧ p ∉ L.take k) ∧ w = wr) (fun x _ => L.length - (intOf x).toNat)
  case atStart => exact ⟨0, rfl, Lib.hid ⟨Nat.zero_le _, by simp⟩, rfl⟩
  case round =>
    obtain ⟨k, rfl, HK, rfl⟩ := hrel
    by_cases hlt : k < L.length
    · obtain ⟨x, hx⟩ : ∃ x, L[k]? = some x := ⟨_, List.getElem?_eq_getElem hlt⟩
      obtain ⟨b, off, rfl, hbl, hc⟩ := HR.out (by intro e; rw [e] at hx; cases hx)
      have c1 : w.cell? ⟨b, off + k, none⟩ = some (.int .i64 x) := hc k x hx
      have hk1 : (k : Int) < (L.length : Int) := by omega
      have hw : wrap64 ((k : Int) + 1) = ((k + 1 : Nat) : Int) := by rw [IntWalk.wrap64_in _ (by omega)]; omega
      have HX := Lib.hid hx
      clear hx hc
      by_cases hxy : p = x
      · have hne : (p == x) = true := by simp [hxy]
        have HXY := Lib.hid hxy
        clear hxy
        go_wp2
        go_ret
        exact ⟨_, rfl, .inr ⟨k, rfl, by rw [HXY.out]; exact HX.out, HK.out.2⟩, rfl⟩
      · have hne : (p == x) = false := by simp [hxy]
        have HXY := Lib.hid hxy
        clear hxy
        go_wp2
        go_roundw
        case rel => exact ⟨k + 1, rfl, Lib.hid ⟨by omega, notin_succ HK.out.2 HX.out HXY.out⟩, trivial⟩
        case measure => simp [intOf]; omega
    · have hk1 : ¬ (k : Int) < (L.length : Int) := by omega
      go_wp2
      go_ret
      exact ⟨_, rfl, .inl ⟨rfl, by have h1 := HK.out.2; rwa [List.take_of_length_le (by omega)] at h1⟩, rfl⟩
theorem contains_c (A : Option Addr) (c : Nat) (L : List Int) (p : Int) (w : World) (h : IntsR w A L) (hm : L.length ≤ 17592186044416) :
    Calls Try.prog 37 #[.slice A L.length c, .int .i64 p] w fun e w' => e = .returned (.bool (decide (p ∈ L))) ∧ w = w' := by
  have HI := Lib.hid (index_c A c L p w h hm)
  clear h
  go_enter Try.func37, Try.ntmps37
  go_wp2_with (go_at_call 40; refine HI.out.mono ?_; rintro e w1 ⟨z, rfl, hz, rfl⟩)
  go_ret
  exact ⟨ret_bool hz.mem, rfl⟩
/-- The closure that asks for the number in box q. -/
def isF (q : Nat) : Value := .func (.func 31) #[] #[.pointer (some ⟨q, 0, none⟩)]
theorem is_c (q : Nat) (x p : Int) (w : World) (h : w.cell? ⟨q, 0, none⟩ = some (.int .i64 p)) :
    Calls Try.prog 31 #[.int .i64 x, .pointer (some ⟨q, 0, none⟩)] w fun e w' => e = .returned (.bool (x == p)) ∧ w = w' := by
  go_enter Try.func31, Try.ntmps31
  go_wp2
  go_ret
  exact ⟨rfl, rfl⟩
theorem indexf_c (A : Option Addr) (c q : Nat) (L : List Int) (p : Int) (w : World) (h : IntsR w A L) (hm : L.length ≤ 17592186044416) (hq : w.cell? ⟨q, 0, none⟩ = some (.int .i64 p)) :
    Calls Try.prog 38 #[.slice A L.length c, isF q] w fun e w' => ∃ z, e = .returned (.int .i64 z) ∧ IdxQ L p z ∧ w = w' := by
  have HR := Lib.hid h
  clear h
  unfold isF
  go_enter Try.func38, Try.ntmps38
  go_wp2
  go_loopw [8] (fun x wr => ∃ k : Nat, x = .int .i64 k ∧ Hid (k ≤ L.length ∧ p ∉ L.take k) ∧ w = wr) (fun x _ => L.length - (intOf x).toNat)
  case atStart => exact ⟨0, rfl, Lib.hid ⟨Nat.zero_le _, by simp⟩, rfl⟩
  case round =>
    obtain ⟨k, rfl, HK, rfl⟩ := hrel
    by_cases hlt : k < L.length
    · obtain ⟨x, hx⟩ : ∃ x, L[k]? = some x := ⟨_, List.getElem?_eq_getElem hlt⟩
      obtain ⟨b, off, rfl, hbl, hc⟩ := HR.out (by intro e; rw [e] at hx; cases hx)
      have c1 : w.cell? ⟨b, off + k, none⟩ = some (.int .i64 x) := hc k x hx
      have hk1 : (k : Int) < (L.length : Int) := by omega
      have hw : wrap64 ((k : Int) + 1) = ((k + 1 : Nat) : Int) := by rw [IntWalk.wrap64_in _ (by omega)]; omega
      have HX := Lib.hid hx
      clear hx hc
      by_cases hxy : x = p
      · have hne : (x == p) = true := by simp [hxy]
        have HXY := Lib.hid hxy
        clear hxy
        go_wp2_with (go_at_call 31; refine (is_c q x p _ hq).mono ?_; rintro e w1 ⟨rfl, rfl⟩)
        go_ret
        exact ⟨_, rfl, .inr ⟨k, rfl, by rw [← HXY.out]; exact HX.out, HK.out.2⟩, rfl⟩
      · have hne : (x == p) = false := by simp [hxy]
        have HXY := Lib.hid hxy
        clear hxy
        go_wp2_with (go_at_call 31; refine (is_c q x p _ hq).mono ?_; rintro e w1 ⟨rfl, rfl⟩)
        go_roundw
        case rel => exact ⟨k + 1, rfl, Lib.hid ⟨by omega, notin_succ HK.out.2 HX.out (fun e => HXY.out e.symm)⟩, trivial⟩
        case measure => simp [intOf]; omega
    · have hk1 : ¬ (k : Int) < (L.length : Int) := by omega
      go_wp2
      go_ret
      exact ⟨_, rfl, .inl ⟨rfl, by have h1 := HK.out.2; rwa [List.take_of_length_le (by omega)] at h1⟩, rfl⟩
/-- Cells set one by one, in a block that is known whole. -/
theorem Blk.setCells {t : TypeId} {g : Nat} : ∀ (vs : List Value) (o : Nat) (w : World) (cs : Array Value), Blk w g t cs → ∃ cs', Blk (w.setCells g o vs) g t cs' ∧ cs'.size = cs.size ∧ ∀ j, j < o → cs'[j]? = cs[j]?
  | [], o, w, cs, h => ⟨cs, h, rfl, fun _ _ => rfl⟩
  | v :: vs, o, w, cs, h => by
    obtain ⟨cs', h1, h2, h3⟩ := Blk.setCells vs (o + 1) _ _ (h.set_ o v)
    refine ⟨cs', h1, by simpa using h2, fun j hj => ?_⟩
    rw [h3 j (by omega), Array.getElem?_setIfInBounds]
    rw [if_neg (by omega)]
theorem keeps_setCells {S : Nat → Prop} {a : World} {g : Nat} (hg : S g) : ∀ (vs : List Value) (o : Nat) (w : World), Keeps S a w → Keeps S a (w.setCells g o vs)
  | [], o, w, h => h
  | v :: vs, o, w, h => keeps_setCells hg vs (o + 1) _ (h.setCell (p := ⟨g, o, none⟩) (.inl hg) v)
def others (L : List Int) (p : Int) : List Int := L.filter (· != p)
theorem others_none {L : List Int} {p : Int} (h : p ∉ L) : others L p = L := List.filter_eq_self.2 fun a ha => by simp; rintro rfl; exact h ha
theorem others_succ {L : List Int} {p x : Int} {k : Nat} (hx : L[k]? = some x) : others (L.take (k + 1)) p = others (L.take k) p ++ (if x = p then [] else [x]) := by
  unfold others
  rw [List.take_add_one, hx, List.filter_append]
  by_cases h : x = p <;> simp [h]
theorem others_len (L : List Int) (p : Int) (k : Nat) : (others (L.take k) p).length ≤ k := Nat.le_trans (List.length_filter_le _ _) (by simp; omega)
/-- The block within the loop: i are kept of the first j. -/
def DelI (L : List Int) (p : Int) (i j : Nat) (cur : Array Value) (c : Nat) : Prop :=
  cur.size = c ∧ i = (others (L.take j) p).length ∧ i < j ∧ j ≤ L.length ∧ cur.toList.take i = ics (others (L.take j) p) ∧ ∀ m x, j ≤ m → L[m]? = some x → cur[m]? = some (.int .i64 x)
theorem DelI.skip {L : List Int} {p x : Int} {i j c : Nat} {cur : Array Value} (h : DelI L p i j cur c) (hx : L[j]? = some x) (he : x = p) : DelI L p i (j + 1) cur c := by
  obtain ⟨h1, h2, h3, h4, h5, h6⟩ := h
  have hj : j < L.length := (List.getElem?_eq_some_iff.1 hx).1
  have h7 := others_succ (p := p) hx
  rw [if_pos he, List.append_nil] at h7
  exact ⟨h1, by rw [h7]; exact h2, by omega, hj, by rw [h7]; exact h5, fun m y hm hy => h6 m y (by omega) hy⟩
theorem DelI.keep {L : List Int} {p x : Int} {i j c : Nat} {cur : Array Value} (h : DelI L p i j cur c) (hl : L.length ≤ c) (hx : L[j]? = some x) (he : x ≠ p) : DelI L p (i + 1) (j + 1) (cur.setIfInBounds i (.int .i64 x)) c := by
  obtain ⟨h1, h2, h3, h4, h5, h6⟩ := h
  have hj : j < L.length := (List.getElem?_eq_some_iff.1 hx).1
  have h7 := others_succ (p := p) hx
  rw [if_neg he] at h7
  refine ⟨by simpa using h1, by rw [h7]; simp; omega, by omega, hj, ?_, fun m y hm hy => ?_⟩
  · rw [h7, ics_append, Array.toList_setIfInBounds, List.take_add_one, List.take_set_of_le (Nat.le_refl _), h5, List.getElem?_set_self (by simp; omega)]
    rfl
  · rw [Array.getElem?_setIfInBounds, if_neg (by omega)]
    exact h6 m y (by omega) hy
theorem delf_none (B q : Nat) (A : Option Addr) (c : Nat) (L : List Int) (p : Int) (w : World) (h : IntsR w A L) (hm : L.length ≤ 17592186044416) (hq : w.cell? ⟨q, 0, none⟩ = some (.int .i64 p)) (hp : p ∉ L) :
    Calls Try.prog 30 #[.slice A L.length c, isF q] w fun e w' => e = .returned (.slice A L.length c) ∧ w = w' := by
  have HI := Lib.hid (indexf_c A c q L p w h hm hq)
  clear h
  unfold isF at HI ⊢
  go_enter Try.func30, Try.ntmps30
  have HP := Lib.hid hp
  clear hp
  go_wp2_with (go_at_call 38; refine HI.out.mono ?_; rintro e w1 ⟨z, rfl, hz, rfl⟩; obtain rfl := hz.none HP.out)
  go_ret
  exact ⟨rfl, rfl⟩
set_option maxHeartbeats 400000 in
theorem delf_some (q g c : Nat) (L : List Int) (p : Int) (w : World) (cur : Array Value) (hb : Blk w g 3 cur) (hs : cur.size = c) (ht : cur.toList.take L.length = ics L) (hl : L.length ≤ c) (hc : c ≤ 9223372036854775807) (hm : L.length ≤ 17592186044416)
    (hq : w.cell? ⟨q, 0, none⟩ = some (.int .i64 p)) (hqg : q ≠ g) (hp : p ∈ L) :
    Calls Try.prog 30 #[.slice (some ⟨g, 0, none⟩) L.length c, isF q] w fun e w' => e = .returned (.slice (some ⟨g, 0, none⟩) (others L p).length c) ∧
      (∃ cur', Blk w' g 3 cur' ∧ cur'.size = c ∧ cur'.toList.take (others L p).length = ics (others L p)) ∧ Keeps (fun k => k = g) w w' := by
  have hR : IntsR w (some ⟨g, 0, none⟩) L := fun _ => ⟨g, 0, rfl, hb.lt, fun i x hi => by rw [hb.cell, Nat.zero_add]; exact take_at ht (ics_get hi)⟩
  have HI := Lib.hid (indexf_c (some ⟨g, 0, none⟩) c q L p w hR hm hq)
  have HB := Lib.hid hb
  have HT := Lib.hid (And.intro hs (And.intro ht (And.intro hl (And.intro hqg hp))))
  have hql := lt_of_cell hq
  clear hb hs ht hl hqg hp hR
  have qF : Hid (isF q = .func (.func 31) #[] #[.pointer (some ⟨q, 0, none⟩)]) := (show isF q = _ from rfl)
  unfold isF at HI ⊢
  go_enter Try.func30, Try.ntmps30
  go_wp2_with (go_at_call 38; refine HI.out.mono ?_; rintro e w1 ⟨z, rfl, hz, rfl⟩; obtain ⟨k, rfl, hk, hkl, hk1⟩ := hz.some_ HT.out.2.2.2.2; have hw0 : wrap64 ((k : Int) + 1) = ((k + 1 : Nat) : Int) := (by rw [IntWalk.wrap64_in _ (by omega)]; omega))
  go_loopw [5, 6] (fun x y wr => ∃ i j : Nat, x = .int .i64 i ∧ y = .int .i64 j ∧ ∃ cur', Blk wr g 3 cur' ∧ Hid (DelI L p i j cur' c) ∧ Keeps (fun k => k = g) w wr) (fun _ y _ => L.length - (intOf y).toNat)
  case atStart =>
    refine ⟨k, k + 1, rfl, by simp, cur, HB.out, Lib.hid ?_, Keeps.refl _ _⟩
    have h7 := others_succ (p := p) hk.out.1
    rw [if_pos rfl, List.append_nil, others_none hk.out.2] at h7
    refine ⟨HT.out.1, by rw [h7]; simp; omega, by omega, hkl, ?_, fun m x hm hx => take_at HT.out.2.1 (ics_get hx)⟩
    rw [h7]
    have := congrArg (List.take k) HT.out.2.1
    rw [List.take_take, Nat.min_eq_left (by omega)] at this
    rw [this]
    simp [ics, List.map_take]
  case round =>
    obtain ⟨i, j, rfl, rfl, cur', hB', hI, hK⟩ := hrel
    have hij : i < j := hI.out.2.2.1
    have hjl : j ≤ L.length := hI.out.2.2.2.1
    by_cases hlt : j < L.length
    · obtain ⟨x, hx⟩ : ∃ x, L[j]? = some x := ⟨_, List.getElem?_eq_getElem hlt⟩
      have c1 : wr.cell? ⟨g, 0 + j, none⟩ = some (.int .i64 x) := by rw [hB'.cell, Nat.zero_add]; exact hI.out.2.2.2.2.2 j x (Nat.le_refl _) hx
      have c1' : wr.cell? ⟨g, j, none⟩ = some (.int .i64 x) := by rw [hB'.cell]; exact hI.out.2.2.2.2.2 j x (Nat.le_refl _) hx
      have cq : wr.cell? ⟨q, 0, none⟩ = some (.int .i64 p) := (hK.cell hql HT.out.2.2.2.1).trans hq
      have ci : ∃ u, wr.cell? ⟨g, i, none⟩ = some u := by
        rw [hB'.cell]
        exact ⟨_, Array.getElem?_eq_getElem (by have := hI.out.1; have := HT.out.2.2.1; omega)⟩
      obtain ⟨u, ci⟩ := ci
      have fi := hB'.frozen i
      have hjI : (j : Int) < (L.length : Int) := by omega
      have hiI : (i : Int) < (L.length : Int) := by omega
      have hw : wrap64 ((j : Int) + 1) = ((j + 1 : Nat) : Int) := by rw [IntWalk.wrap64_in _ (by omega)]; omega
      have hwi : wrap64 ((i : Int) + 1) = ((i + 1 : Nat) : Int) := by rw [IntWalk.wrap64_in _ (by omega)]; omega
      have HX := Lib.hid hx
      clear hx
      by_cases hxy : x = p
      · have hne : (x == p) = true := by simp [hxy]
        have HXY := Lib.hid hxy
        clear hxy
        go_wp2_with (go_at_call 31; refine (is_c q x p _ cq).mono ?_; rintro e w1 ⟨rfl, rfl⟩)
        go_roundw
        case rel => exact ⟨i, j + 1, rfl, rfl, cur', hB', Lib.hid (hI.out.skip HX.out HXY.out), hK⟩
        case measure => simp [intOf]; omega
      · have hne : (x == p) = false := by simp [hxy]
        have HXY := Lib.hid hxy
        clear hxy
        go_wp2_with (go_at_call 31; refine (is_c q x p _ cq).mono ?_; rintro e w1 ⟨rfl, rfl⟩)
        go_roundw
        case rel => exact ⟨i + 1, j + 1, rfl, rfl, _, hB'.set_ i (.int .i64 x), Lib.hid (hI.out.keep HT.out.2.2.1 HX.out HXY.out), hK.setCell (.inl rfl) _⟩
        case measure => simp [intOf]; omega
    · have hjI : ¬ (j : Int) < (L.length : Int) := by omega
      obtain rfl : j = L.length := by omega
      have hiI : (i : Int) < (L.length : Int) := by omega
      have hsz := hI.out.1
      have hlc := HT.out.2.2.1
      have hcl : ∀ ty, (Builtin.clear_ #[39] ty #[.slice (some ⟨g, i, none⟩) (L.length - i) (c - i)]).run Try.prog wr = .ok (.tuple #[]) (wr.setCells g i (List.replicate (L.length - i) (.int .i64 0))) :=
        fun ty => Lib.run_clear_slice wr _ _ ty _ Try.underlying39 zeroint rfl rfl g i _ _ (by omega) (fun j hj => by rw [hB'.cell, Array.getElem?_eq_getElem (by omega)]; rfl) (fun j hj => hB'.frozen _)
      have HSZ := Lib.hid hsz
      have HLC := Lib.hid hlc
      clear hsz
      have e1 : (i : Int) ≤ (L.length : Int) := by omega
      have e2 : (L.length : Int) ≤ (c : Int) := by omega
      have e3 : (i : Int) ≤ (c : Int) := by omega
      have e4 : i ≠ c := by omega
      go_wp2
      go_ret
      have h6 := hI.out
      obtain ⟨g1, g2, g3, g4, g5, g6⟩ := h6
      rw [List.take_length] at g2 g5
      obtain ⟨cs', k1, k2, k3⟩ := Blk.setCells (List.replicate (L.length - i) (.int .i64 0)) i _ _ hB'
      refine ⟨by rw [← g2]; rfl, ⟨cs', k1, k2.trans g1, ?_⟩, keeps_setCells (S := fun k => k = g) rfl _ _ _ hK⟩
      rw [← g2, ← g5]
      apply List.ext_getElem?
      intro m
      rw [List.getElem?_take, List.getElem?_take]
      split
      · next hm' => simpa using k3 m hm'
      · rfl
theorem delf_c (B q : Nat) (v : Value) (L : List Int) (p : Int) (w : World) (h : OwnI w B v L) (hm : L.length ≤ 17592186044416) (hq : w.cell? ⟨q, 0, none⟩ = some (.int .i64 p)) (hv : v.ownBlock ≠ some q) :
    Calls Try.prog 30 #[v, isF q] w fun e w' => ∃ v', e = .returned v' ∧ OwnI w' B v' (others L p) ∧ v'.ownBlock = v.ownBlock ∧ Keeps (fun k => v.ownBlock = some k) w w' := by
  by_cases hp : p ∈ L
  · obtain ⟨A, c, rfl, h1, h2, h3, h4⟩ := own_form h
    have hA : ∃ a, A = some a := by
      cases A with
      | none => have := (h3 rfl).1; simp at this; subst this; cases hp
      | some a => exact ⟨a, rfl⟩
    obtain ⟨a, rfl⟩ := hA
    obtain ⟨g, cur, rfl, hg, hb, hs, ht⟩ := h4 a rfl
    have hqg : q ≠ g := by rintro rfl; exact hv rfl
    refine (delf_some q g c L p w cur hb (by omega) (by simpa using ht) h1 (by simpa [maxLen] using h2) hm hq hqg hp).mono ?_
    rintro e w' ⟨rfl, ⟨cur', k1, k2, k3⟩, hK⟩
    have hle : (others L p).length ≤ L.length := List.length_filter_le _ _
    refine ⟨_, rfl, ⟨by simp [ics_length], .inr ⟨g, c, cur', rfl, hg, k1, by omega, h2, by omega, by simpa using k3⟩⟩, rfl, hK.mono fun i hi => by subst hi; rfl⟩
  · obtain ⟨A, c, rfl, h1, h2, h3, h4, h5⟩ := h.form
    refine (delf_none B q A c L p w h3 hm hq hp).mono ?_
    rintro e w' ⟨rfl, rfl⟩
    exact ⟨_, rfl, by rw [others_none hp]; exact h, rfl, Keeps.refl _ _⟩
end Go.Proofs.Ytligkfaldaoocaa
