/- The program's stack: Drop. -/
import Derived.Test.YtmgcjdedgfiboaaStkU
namespace Go.Proofs.Ytmgcjdedgfiboaa
set_option linter.unusedVariables false
open Go.RowKit

def restE (E : List Ent) (t : Int) : List Ent := E.filter fun x => x.1 != t
theorem heldE_app (L M : List Ent) (t : Int) : heldE (L ++ M) t = heldE L t ++ heldE M t := by simp [heldE]
theorem heldE_no {L : List Ent} {t : Int} (h : ∀ x ∈ L, x.1 ≠ t) : heldE L t = [] := by
  unfold heldE
  rw [List.filter_eq_nil_iff.2, List.map_nil]
  intro x hx
  simpa using h x hx
theorem restE_no {L : List Ent} {t : Int} (h : ∀ x ∈ L, x.1 ≠ t) : restE L t = L := by
  unfold restE
  exact List.filter_eq_self.2 fun x hx => by simpa using h x hx
theorem split_at {E : List Ent} {k : Nat} {x : Ent} (h : E[k]? = some x) : E = E.take k ++ x :: E.drop (k + 1) := by
  have hk : k < E.length := (List.getElem?_eq_some_iff.1 h).1
  have h2 := (List.getElem?_eq_some_iff.1 h).2
  rw [← h2, ← List.drop_eq_getElem_cons hk, List.take_append_drop]
theorem unl_step {n : Nat} {E E' : List Ent} {t r e : Int} (h : UnlQ n E t r e E') (ha : askE n t = 0) :
    (e = 0 ∧ heldE E t = heldE E' t ++ [r] ∧ restE E t = restE E' t ∧ E.length = E'.length + 1) ∨ (e = 132 ∧ heldE E t = [] ∧ E' = E ∧ restE E t = E) := by
  rcases h with ⟨h1, _⟩ | ⟨_, h2, _, h4, h5⟩ | ⟨_, k, x, hx, hxt, hd, hr, he, hE⟩
  · exact absurd ha h1
  · exact .inr ⟨h4, heldE_no h2, h5, restE_no h2⟩
  · left
    have hs := split_at hx
    have hkl : k < E.length := (List.getElem?_eq_some_iff.1 hx).1
    refine ⟨he, ?_, ?_, ?_⟩
    · rw [hE, heldE_app, heldE_no hd, List.append_nil, hr]
      conv => lhs; rw [hs]
      rw [heldE_app, show x :: E.drop (k + 1) = [x] ++ E.drop (k + 1) from rfl, heldE_app, heldE_no hd, List.append_nil]
      congr 1
      simp [heldE, hxt]
    · rw [hE]
      conv => lhs; rw [hs]
      simp [restE, hxt]
    · rw [hE]; simp; omega
section
variable {B s n tc : Nat} {w w' w0 : World} {TA : Option Addr} {D : Nat → Nat → Int} {v v' : Value} {E E' : List Ent} {F : Nat → Prop}
/-- Blocks of other kinds are turned: the stack stands. -/
theorem StA.far (h : StA B w s TA n tc D v E) (k : Keeps F w w') (hF : ∀ b, F b → b < w.heap.size → ∃ cs, Blk w b 3 cs) : StA B w' s TA n tc D v E := by
  have h1 : ∀ {b : Nat} {t : TypeId} {cs : Array Value}, Blk w b t cs → t ≠ 3 → w'.heap[b]? = w.heap[b]? := fun {b t cs} hb ht => k.block b hb.lt fun e => by
    obtain ⟨cs2, h2⟩ := hF b e hb.lt
    exact Blk.ne_ hb h2 ht rfl
  refine ⟨(h1 h.blk (by decide)).trans h.blk, h.sB, h.own.keep fun b hb => ?_, h.len, h.n4, fun hn => ?_, fun a ha => ?_⟩
  · obtain ⟨_, _, cur, hc⟩ := h.own.lt b hb
    exact h1 hc (by decide)
  · obtain ⟨b, off, hA, hbl, hr⟩ := h.tasks hn
    obtain ⟨cs, _, h2⟩ := h.tb _ hA
    exact ⟨b, off, hA, Nat.lt_of_lt_of_le hbl k.size, fun i hi => (hr i hi).keep fun p hp => World.cell?_of_block (w := w) (by rw [hp]; exact h1 h2 (by decide))⟩
  · obtain ⟨cs, h2, h3⟩ := h.tb a ha
    exact ⟨cs, h2, (h1 h3 (by decide)).trans h3⟩
theorem OwnI.lt {L : List Int} (h : OwnI w B v L) : ∀ b, v.ownBlock = some b → B ≤ b ∧ b < w.heap.size ∧ ∃ cur, Blk w b 3 cur := by
  intro b hb
  obtain ⟨A, c, rfl, h1, h2, h3, h4⟩ := own_form h
  cases A with
  | none => simp [Value.ownBlock] at hb
  | some a =>
    obtain ⟨g, cur, rfl, hg, hk, _⟩ := h4 a rfl
    simp [Value.ownBlock] at hb
    subst hb
    exact ⟨hg, hk.lt, cur, hk⟩
theorem OwnI.keep {L : List Int} (h : OwnI w B v L) (hb : ∀ b, v.ownBlock = some b → w'.heap[b]? = w.heap[b]?) : OwnI w' B v L := own_below' h hb
/-- A row of numbers, where the stack turns. -/
theorem OwnI.turn {L : List Int} {u : Value} (h : OwnI w B u L) {B2 : Nat} (hS : StA B2 w s TA n tc D v E) (hT : STurn s v v' w w') : OwnI w' B u L :=
  h.keep fun b hb => hT.1.block b (h.lt b hb).2.1 fun e => by
    obtain ⟨_, _, cur, hc⟩ := h.lt b hb
    rcases e with rfl | e
    · exact Blk.ne_ hc hS.blk (by decide) rfl
    · obtain ⟨_, _, cur2, hc2⟩ := hS.own.lt b e
      exact Blk.ne_ hc hc2 (by decide) rfl
theorem STurn.belowB (h : StA B w s TA n tc D v E) (hT : STurn s v v' w w') (hB : Below B w0 w) : Below B w0 w' := Below.keeps hB hT.1 h.hs fun i hi => (h.footB i hi).1
end
theorem turn_app {s : Nat} {v v1 o : Value} {w wr w4 : World} {L : List Int} {z : Int} (hT : STurn s v v1 w wr) (hO : OwnI wr w.heap.size o L) (hg : Keeps (fun b => o.ownBlock = some b) (wr.alloc (.cells #[.int .i64 z] 3)) w4) : STurn s v v1 w w4 :=
  ⟨hT.1.trans ((Keeps.alloc (Keeps.refl (fun b => o.ownBlock = some b) wr) _).trans hg fun i hi => .inl hi) fun i hi => .inr (hO.lt i hi).1, hT.2⟩
theorem meas_lt {a b : Nat} {z : Int} (h : z = 0 → a + 1 ≤ b) : (if z = 0 then a + 1 else 0) < b + 1 := by
  split
  · next e => have := h e; omega
  · omega
def dropL (n : Nat) (E : List Ent) (t : Int) : List Int := if askE n t = 0 then (heldE E t).reverse else []
def dropC (n : Nat) (E : List Ent) (t : Int) : List Ent := if askE n t = 0 then restE E t else E
def lenAt (w : World) (s : Nat) : Nat := match w.cell? ⟨s, 1, none⟩ with
  | some (.slice _ n _) => n
  | _ => 0
theorem lenAt_of {B s n tc : Nat} {w : World} {TA : Option Addr} {D : Nat → Nat → Int} {v : Value} {E : List Ent} (h : StA B w s TA n tc D v E) : lenAt w s = E.length := by
  obtain ⟨A, c, rfl, c1, -⟩ := h.ent
  unfold lenAt
  rw [c1]
set_option maxHeartbeats 1600000 in
theorem drop_c {B s n tc : Nat} {w : World} {TA : Option Addr} {D : Nat → Nat → Int} {v : Value} {E : List Ent} (h : StA B w s TA n tc D v E) (t : Int) :
    Calls Try.prog 12 #[.pointer (some ⟨s, 0, none⟩), .int .i64 t] w fun e w' => ∃ o, e = .returned o ∧ OwnI w' w.heap.size o (dropL n E t) ∧ SQ B s TA n tc D v (dropC n E t) w w' := by
  have HH := Lib.hid h
  have HU := Lib.hid (unlock_c h t)
  have hEl := h.len
  clear h
  by_cases ha : askE n t = 0
  · have HDL : Hid (dropL n E t = (heldE E t).reverse) := if_pos ha
    have HDC : Hid (dropC n E t = restE E t) := if_pos ha
    have HA := Lib.hid ha
    clear ha
    go_enter Try.func12, Try.ntmps12
    go_wp2_with (go_at_call 11; with_reducible refine HU.out.mono ?_; rintro e w1 ⟨r, z, E1, rfl, hq, hs⟩)
    go_loopw [4, 5, 6] (fun o x y wr => ∃ (L : List Int) (E0 E1 : List Ent) (r z : Int) (v1 : Value), x = .int .i64 r ∧ y = .int .i64 z ∧ Hid (UnlQ n E0 t r z E1) ∧ Hid (L ++ (heldE E0 t).reverse = (heldE E t).reverse) ∧ Hid (restE E0 t = restE E t) ∧ OwnI wr w.heap.size o L ∧ StA B wr s TA n tc D v1 E1 ∧ STurn s v v1 w wr ∧ Hid (L.length ≤ 100000))
      (fun _ _ y wr => if intOf y = 0 then lenAt wr s + 1 else 0)
    case atStart =>
      obtain ⟨v1, h1, h2⟩ := hs
      exact ⟨[], E, E1, r, z, v1, rfl, rfl, hq, Lib.hid rfl, Lib.hid rfl, OwnI.nil, h1, h2, Lib.hid (by simp)⟩
    case round =>
      clear hq hs
      obtain ⟨L, E0, E1, r, z, v1, rfl, rfl, hq, hl, hr, hO, hS, hT, hL⟩ := hrel
      rcases unl_step hq.out HA.out with ⟨rfl, e1, e2, e3⟩ | ⟨rfl, e1, e2, e3⟩
      · have HE := Lib.hid (And.intro e1 (And.intro e2 e3))
        have hHl : (heldE E t).length ≤ 100000 := Nat.le_trans (heldE_len E t) hEl
        have hLl : Hid (L.length + 1 ≤ 100000) := by
          have := congrArg List.length hl.out
          rw [e1] at this
          simp at this
          show L.length + 1 ≤ 100000
          omega
        have hLL : Hid (L.length + 1 ≤ 10000000000000) := by show L.length + 1 ≤ 10000000000000; have := hLl.out; omega
        have hB := hO
        have HS := Lib.hid hS
        have HT := Lib.hid hT
        have HO := Lib.hid hO
        have hsz : w.heap.size ≤ wr.heap.size := hT.1.size
        have HM : Hid (lenAt wr s = E1.length) := lenAt_of hS
        clear e1 e2 e3 hO hS hT hB hq hHl
        go_wp2_with (first
          | (at_builtin; refine wpList_append_int (w0 := wr) (B := w.heap.size) rfl _ _ rfl rfl HO.out (Below.refl _ _) hsz r rfl hLL.out ?_; intro v4 w4 hO4 hg4 hf4 hB4; have hg5 := keeps_grown hg4; have hS4 := (HS.out.below ((Below.refl _ wr).alloc (Nat.le_refl _) (.cells #[.int .i64 r] 3))).far hg5 (fun b hb hbl => (OwnI.lt (HO.out.below ((Below.refl _ wr).alloc (Nat.le_refl _) (.cells #[.int .i64 r] 3))) b hb).2.2); have HU4 := Lib.hid (unlock_c hS4 t); have hT4 := Lib.hid (turn_app HT.out HO.out hg5); have hO5 := Lib.hid hO4; clear hg4 hg5 hf4)
          | (go_at_call 11; with_reducible refine HU4.out.mono ?_; rintro e w5 ⟨r5, z5, E5, rfl, hq5, hs5⟩))
        obtain ⟨v5, hS5, hT5⟩ := hs5
        have hOf := hO5.out.turn hS4 hT5
        have hm5 := lenAt_of hS5
        go_roundw
        case rel => exact ⟨L ++ [r], E1, E5, r5, z5, v5, rfl, rfl, hq5, Lib.hid (by rw [← hl.out, HE.out.1, List.reverse_append, List.append_assoc]; rfl), Lib.hid (by rw [← hr.out, HE.out.2.1]), hOf, hS5, hT4.out.trans hT5, Lib.hid (by have := hLl.out; simpa using this)⟩
        case measure =>
          simp only [intOf]
          rw [hm5, HM.out]
          rw [if_pos trivial]
          refine meas_lt fun e => ?_
          rcases unl_step hq5 HA.out with ⟨_, _, _, k⟩ | ⟨k, _⟩
          · omega
          · omega
      · have hz : ((132 : Int) == 0) = false := rfl
        go_wp2_with fail
        go_ret
        refine ⟨_, rfl, ?_, v1, ?_, hT⟩
        · rw [HDL.out, ← hl.out, e1]
          simpa using hO
        · rw [HDC.out, ← hr.out, e3, ← e2]
          exact hS
  · have HDL : Hid (dropL n E t = []) := if_neg ha
    have HDC : Hid (dropC n E t = E) := if_neg ha
    have HA := Lib.hid ha
    clear ha
    go_enter Try.func12, Try.ntmps12
    go_wp2_with (go_at_call 11; with_reducible refine HU.out.mono ?_; rintro e w1 ⟨r, z, E1, rfl, hq, hs⟩)
    have hz : ¬ z = 0 ∧ E1 = E := by
      rcases hq with ⟨h1, _, h3, h4⟩ | ⟨h1, _⟩ | ⟨h1, _⟩
      · exact ⟨by rw [h3]; exact h1, h4⟩
      · exact absurd h1 HA.out
      · exact absurd h1 HA.out
    obtain ⟨hz0, rfl⟩ := hz
    have hz1 : (z == 0) = false := beq_false_of_ne hz0
    have HS := Lib.hid hs
    clear hs hq
    go_loopw [4, 5, 6] (fun o x y wr => o = .slice none 0 0 ∧ y = .int .i64 z ∧ Hid (w1 = wr)) (fun _ _ _ _ => 0)
    case atStart => exact ⟨rfl, rfl, Lib.hid (by trivial)⟩
    case round =>
      obtain ⟨rfl, rfl, hww⟩ := hrel
      obtain rfl := hww.out
      go_wp2_with fail
      go_ret
      exact ⟨_, rfl, by rw [HDL.out]; exact OwnI.nil, by rw [HDC.out]; exact HS.out⟩
end Go.Proofs.Ytmgcjdedgfiboaa
