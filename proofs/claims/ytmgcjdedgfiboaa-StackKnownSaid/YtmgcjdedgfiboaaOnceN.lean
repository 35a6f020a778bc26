/- StackOnce: what stands behind a call, and behind what the law writes then. -/
import Derived.Test.YtmgcjdedgfiboaaOnceM
namespace Go.Proofs.Ytmgcjdedgfiboaa
set_option linter.unusedVariables false
open Go.RowKit

theorem sl1 {a b : Nat} (h : a = b) : Value.slice (some ⟨a, 0, none⟩) 1 1 = Value.slice (some ⟨b, 0, none⟩) 1 1 := by rw [h]
theorem size_set (w : World) (p : Addr) (u : Value) : w.heap.size = (w.setCell p u).heap.size := by simp
def heldF (E : List Ent) : Nat → List Int := fun k => heldE E (k : Nat)
def lockF (E : List Ent) : Nat → Bool := fun y => lockedB E (y : Nat)
/-- What the law knows at a round's start. -/
structure OnceS (B : Nat) (w0 w : World) (s g1 g2 : Nat) (D : Nat → Nat → Int) (E : List Ent) (V : Nat → Value) (m : Nat) : Prop where
  st : StX B w s 4 D E
  r : Rows4 B w g1 g2 V (heldF E) (lockF E)
  inv : OInv E
  len : E.length ≤ m
  b : Below B w0 w
section
variable {B s g1 g2 m n c p r : Nat} {w w' w0 w1 w6 : World} {A : Option Addr} {D : Nat → Nat → Int} {E E' : List Ent} {V : Nat → Value} {f : Nat → Bool} {L : List Int} {v : Value}
theorem OnceS.below (h : OnceS B w0 w s g1 g2 D E V m) (k : Below w.heap.size w w') : OnceS B w0 w' s g1 g2 D E V m :=
  ⟨h.st.below k, h.r.below k, h.inv, h.len, below_lift h.b k h.st.hs⟩
theorem OnceS.le (h : OnceS B w0 w s g1 g2 D E V m) : OnceS B w0 w s g1 g2 D E V (m + 1) := ⟨h.st, h.r, h.inv, Nat.le_succ_of_le h.len, h.b⟩
/-- The call changed nothing. -/
theorem OnceS.same (h : OnceS B w0 w s g1 g2 D E V m) (hK : SK B w0 w s D E w') : OnceS B w0 w' s g1 g2 D E V (m + 1) :=
  ⟨hK.st, h.r.keep hK.k, h.inv, Nat.le_succ_of_le h.len, hK.b⟩
theorem OnceS.cell1 (h : OnceS B w0 w s g1 g2 D E V m) (hp : p < 4) : ∃ A c, V p = .slice A (heldE E (p : Nat)).length c ∧ w.cell? ⟨g1, p, none⟩ = some (.slice A (heldE E (p : Nat)).length c) ∧ IntsR w A (heldE E (p : Nat)) ∧ (heldE E (p : Nat)).length ≤ c := by
  obtain ⟨A, c, e, h1, -, h2, -⟩ := (h.r.own p hp).form
  exact ⟨A, c, e, (h.r.rows.cell p).trans (by rw [rowC_get V hp, e]; rfl), h2, h1⟩
theorem OnceS.cell2 (h : OnceS B w0 w s g1 g2 D E V m) (hr : r < 8) : w.cell? ⟨g2, r, none⟩ = some (.bool (lockedB E (r : Nat))) := (h.r.lck.cell r).trans (lckC_get _ hr)
theorem heldF_put (E : List Ent) (p r : Nat) : upd (heldF E) p (heldE E (p : Nat) ++ [(r : Int)]) = heldF (E ++ [((p : Int), (r : Int))]) := by
  funext k
  unfold heldF upd
  rw [held_put]
  by_cases e : k = p
  · subst e; simp
  · rw [if_neg e, if_neg (by omega)]
theorem lockF_put (E : List Ent) (p r : Nat) : upd (lockF E) r true = lockF (E ++ [((p : Int), (r : Int))]) := by
  funext k
  unfold lockF upd
  rw [locked_put]
  by_cases e : k = r
  · subst e; simp
  · rw [if_neg e, beq_false_of_ne (by omega : (r : Int) ≠ (k : Int)), Bool.or_false]
/-- What the law writes leaves the stack. -/
theorem st_far (hst : StX B w6 s n D E) (hr : Rows4 B w6 g1 g2 V (heldF E') f) (hp : p < 4) (k : Keeps (fun b => b = g1 ∨ b = g2 ∨ (V p).ownBlock = some b) w6 w') : StX B w' s n D E :=
  hst.far2 k fun b hb _ => by
    rcases hb with rfl | rfl | hb
    · exact ⟨_, _, hr.rows, by decide, by decide, by decide⟩
    · exact ⟨_, _, hr.lck, by decide, by decide, by decide⟩
    · obtain ⟨_, _, cur, hc⟩ := (hr.own p hp).lt b hb
      exact ⟨_, _, hc, by decide, by decide, by decide⟩
theorem b_far {H : Nat → List Int} (hb : Below B w0 w6) (hs : B ≤ w6.heap.size) (hr : Rows4 B w6 g1 g2 V H f) (hp : p < 4) (k : Keeps (fun b => b = g1 ∨ b = g2 ∨ (V p).ownBlock = some b) w6 w') : Below B w0 w' :=
  Below.keeps hb k hs fun i hi => by
    rcases hi with rfl | rfl | hi
    · exact hr.b1
    · exact hr.b2
    · exact ((hr.own p hp).lt i hi).1
/-- Lock went through: the truth is written, what the append needs. -/
theorem OnceS.lock1 (h : OnceS B w0 w s g1 g2 D E V m) (hp : p < 4) (hr : r < 8) (hK : SK B w0 w s D E' w6) :
    w6.frozen? ⟨g2, r, none⟩ = false ∧ (∃ u, w6.cell? ⟨g2, r, none⟩ = some u) ∧ (w6.setCell ⟨g2, r, none⟩ (.bool true)).cell? ⟨g1, p, none⟩ = some (V p) ∧ OwnI (w6.setCell ⟨g2, r, none⟩ (.bool true)) B (V p) (heldE E (p : Nat)) ∧
      Below B w0 (w6.setCell ⟨g2, r, none⟩ (.bool true)) ∧ B ≤ (w6.setCell ⟨g2, r, none⟩ (.bool true)).heap.size := by
  have h6 := h.r.keep hK.k
  have h7 := h6.put2 hr true
  have hb : Below B w0 (w6.setCell ⟨g2, r, none⟩ (.bool true)) := hK.b.setCell (p := ⟨g2, r, none⟩) h6.b2 _
  exact ⟨h6.lck.frozen r, ⟨_, (h6.lck.cell r).trans (lckC_get _ hr)⟩, (h7.rows.cell p).trans (rowC_get V hp), h7.own p hp, hb, Nat.le_trans (Nat.le_trans h.st.hs hK.z) (Below.setCell (B := 0) (p := ⟨g2, r, none⟩) (Below.refl 0 w6) (Nat.zero_le _) (.bool true)).size⟩
theorem OnceS.lock2 (h : OnceS B w0 w s g1 g2 D E V m) (hp : p < 4) (hr : r < 8) (hl : lockedB E (r : Nat) = false) (hK : SK B w0 w s D (E ++ [((p : Int), (r : Int))]) w6) {w8 : World} {v8 : Value} (hO : OwnI w8 B v8 (heldE E (p : Nat) ++ [(r : Int)]))
    (hg : ((w6.setCell ⟨g2, r, none⟩ (.bool true)).alloc (.cells #[.int .i64 (r : Int)] 3)).grownBy w8 (V p).ownBlock)
    (hv : v8.ownBlock = (V p).ownBlock ∨ v8.ownBlock = some ((w6.setCell ⟨g2, r, none⟩ (.bool true)).alloc (.cells #[.int .i64 (r : Int)] 3)).heap.size) :
    w8.frozen? ⟨g1, p, none⟩ = false ∧ (∃ u, w8.cell? ⟨g1, p, none⟩ = some u) ∧ OnceS B w0 (w8.setCell ⟨g1, p, none⟩ v8) s g1 g2 D (E ++ [((p : Int), (r : Int))]) (upd V p v8) (m + 1) := by
  have h6 := h.r.keep hK.k
  have h7 := h6.put2 hr true
  have hal : Below (w6.setCell ⟨g2, r, none⟩ (.bool true)).heap.size (w6.setCell ⟨g2, r, none⟩ (.bool true)) ((w6.setCell ⟨g2, r, none⟩ (.bool true)).alloc (.cells #[.int .i64 (r : Int)] 3)) := (Below.refl _ _).alloc (Nat.le_refl _) _
  have h7a := h7.below hal
  have hk8 := keeps_grown hg
  have hni : ¬ (V p).ownBlock = some g1 := fun e => by
    obtain ⟨_, _, cur, hc⟩ := (h7.own p hp).lt g1 e
    exact Blk.ne_ h7.rows hc (by decide) rfl
  have hr8 := hk8.blk h7a.rows hni
  have hK8 : Keeps (fun b => b = g1 ∨ b = g2 ∨ (V p).ownBlock = some b) w6 w8 :=
    (((Keeps.setCell (S := fun b => b = g1 ∨ b = g2 ∨ (V p).ownBlock = some b) (Keeps.refl _ _) (.inl (.inr (.inl rfl))) (.bool true)).alloc _).trans hk8 fun i hi => .inl (.inr (.inr hi)))
  have hK9 := Keeps.setCell (p := ⟨g1, p, none⟩) hK8 (.inl (.inl rfl)) v8
  have h9 := h7a.put1 hp hO hk8 fun b hb => by
    rcases hv with hv | hv
    · exact .inl (hv ▸ hb)
    · rw [hv] at hb
      injection hb with hb
      exact .inr (by omega)
  refine ⟨hr8.frozen p, ⟨_, (hr8.cell p).trans (rowC_get V hp)⟩, st_far hK.st h6 hp hK9, ?_, h.inv.put ⟨by omega, by omega⟩ ⟨by omega, by omega⟩ hl, by simp; exact h.len, b_far hK.b (Nat.le_trans h.st.hs hK.z) h6 hp hK9⟩
  rw [← lockF_put, ← heldF_put]
  exact h9
/-- Unlock went through. -/
theorem OnceS.unl (h : OnceS B w0 w s g1 g2 D E V m) (hp : p < 4) {x : Nat} (hx : x < 8) (hV : V p = .slice A n c) (hK : SK B w0 w s D E' w6) (h1 : heldE E (p : Nat) = heldE E' (p : Nat) ++ [(x : Int)]) (h2 : ∀ k : Int, k ≠ (p : Nat) → heldE E' k = heldE E k)
    (h3 : ∀ y, lockedB E' y = (lockedB E y && !((x : Int) == y))) (hi : OInv E') (hl : E'.length ≤ E.length) {k : Nat} (hk : n = k + 1) :
    w6.frozen? ⟨g2, x, none⟩ = false ∧ (∃ u, w6.cell? ⟨g2, x, none⟩ = some u) ∧ (w6.setCell ⟨g2, x, none⟩ (.bool false)).cell? ⟨g1, p, none⟩ = some (.slice A n c) ∧ (w6.setCell ⟨g2, x, none⟩ (.bool false)).frozen? ⟨g1, p, none⟩ = false ∧
      OnceS B w0 ((w6.setCell ⟨g2, x, none⟩ (.bool false)).setCell ⟨g1, p, none⟩ (.slice A k c)) s g1 g2 D E' (upd V p (.slice A k c)) (m + 1) := by
  have h6 := h.r.keep hK.k
  have h7 := h6.put2 hx false
  have ho := h7.own p hp
  rw [hV] at ho
  have hn : n = (heldE E (p : Nat)).length := by
    obtain ⟨A', c', e, _⟩ := own_form ho
    injection e
  have hkl : k = (heldE E' (p : Nat)).length := by
    rw [h1, List.length_append, List.length_singleton] at hn
    omega
  have hc := ho.cut (k := k) (by show k ≤ (heldE E (p : Nat)).length; omega)
  have ht : (heldF E p).take k = heldE E' (p : Nat) := by
    show (heldE E (p : Nat)).take k = _
    rw [h1, hkl, List.take_left]
  rw [ht] at hc
  have hown : ∀ b, (Value.slice A k c).ownBlock = some b → (V p).ownBlock = some b ∨ (w6.setCell ⟨g2, x, none⟩ (.bool false)).heap.size ≤ b := fun b hb => by
    left
    rw [hV]
    cases A with
    | none => simp [Value.ownBlock] at hb
    | some a => simpa [Value.ownBlock] using hb
  have h9 := h7.put1 hp hc (Keeps.refl _ _) hown
  have hK9 : Keeps (fun b => b = g1 ∨ b = g2 ∨ (V p).ownBlock = some b) w6 ((w6.setCell ⟨g2, x, none⟩ (.bool false)).setCell ⟨g1, p, none⟩ (.slice A k c)) :=
    Keeps.setCell (Keeps.setCell (Keeps.refl _ _) (.inl (.inr (.inl rfl))) _) (.inl (.inl rfl)) _
  refine ⟨h6.lck.frozen x, ⟨_, (h6.lck.cell x).trans (lckC_get _ hx)⟩, ((h7.rows.cell p).trans (rowC_get V hp)).trans (by rw [hV]), h7.rows.frozen p, st_far hK.st h6 hp hK9, ?_, hi, by have := h.len; omega, b_far hK.b (Nat.le_trans h.st.hs hK.z) h6 hp hK9⟩
  have e1 : upd (heldF E) p (heldE E' (p : Nat)) = heldF E' := by
    funext j
    unfold heldF upd
    by_cases e : j = p
    · subst e; simp
    · rw [if_neg e, h2 _ (by omega)]
  have e2 : upd (lockF E) x false = lockF E' := by
    funext j
    unfold lockF upd
    rw [h3]
    by_cases e : j = x
    · subst e; simp
    · rw [if_neg e, beq_false_of_ne (by omega : (x : Int) ≠ (j : Int))]; simp
  rw [← e1, ← e2]
  exact h9
/-- In the loop over what Drop gave: j of it are written. -/
structure DropS (B : Nat) (w6 w : World) (g1 g2 : Nat) (V : Nat → Value) (E : List Ent) (L : List Int) (j : Nat) : Prop where
  k : Keeps (fun b => b = g2) w6 w
  r : Rows4 B w g1 g2 V (heldF E) fun y => lockedB E (y : Nat) && !(L.take j).contains (y : Int)
theorem DropS.zero (h : Rows4 B w g1 g2 V (heldF E) (lockF E)) : DropS B w w g1 g2 V E L 0 := ⟨Keeps.refl _ _, by simpa [lockF] using (show Rows4 B w g1 g2 V (heldF E) (fun y => lockedB E (y : Nat)) from h)⟩
theorem DropS.next {j x : Nat} (h : DropS B w6 w g1 g2 V E L j) (hx : L[j]? = some (x : Int)) (h8 : x < 8) : DropS B w6 (w.setCell ⟨g2, x, none⟩ (.bool false)) g1 g2 V E L (j + 1) := by
  refine ⟨h.k.setCell (p := ⟨g2, x, none⟩) (.inl rfl) _, ?_⟩
  have h1 := h.r.put2 h8 false
  have e : upd (fun y : Nat => lockedB E (y : Int) && !(L.take j).contains (y : Int)) x false = fun y : Nat => lockedB E (y : Int) && !(L.take (j + 1)).contains (y : Int) := by
    funext y
    unfold upd
    rw [List.take_add_one, hx]
    by_cases e : y = x
    · subst e; simp
    · rw [if_neg e]
      have : ((L.take j ++ (some (x : Int)).toList).contains (y : Int)) = (L.take j).contains (y : Int) := by
        simp
        omega
      rw [this]
  rw [← e]
  exact h1
/-- Behind the loop. -/
theorem OnceS.dropped (h : OnceS B w0 w s g1 g2 D E V m) (hp : p < 4) (hK : SK B w0 w s D (restE E (p : Nat)) w6) (hd : DropS B w6 w' g1 g2 V E (heldE E (p : Nat)).reverse (heldE E (p : Nat)).reverse.length) :
    w'.frozen? ⟨g1, p, none⟩ = false ∧ (∃ u, w'.cell? ⟨g1, p, none⟩ = some u) ∧ OnceS B w0 (w'.setCell ⟨g1, p, none⟩ (.slice none 0 0)) s g1 g2 D (restE E (p : Nat)) (upd V p (.slice none 0 0)) (m + 1) := by
  have h6 := h.r.keep hK.k
  obtain ⟨_, _, d3, d4, d5⟩ := drop_once (T := (p : Nat)) h.inv ⟨by omega, by omega⟩
  have hr := hd.r
  have e0 : (fun y : Nat => lockedB E (y : Int) && !((heldE E (p : Nat)).reverse.take (heldE E (p : Nat)).reverse.length).contains (y : Int)) = lockF (restE E (p : Nat)) := by
    funext y
    unfold lockF
    rw [List.take_length, d5]
  rw [e0] at hr
  have hK9 : Keeps (fun b => b = g1 ∨ b = g2 ∨ (V p).ownBlock = some b) w6 (w'.setCell ⟨g1, p, none⟩ (.slice none 0 0)) :=
    Keeps.setCell (p := ⟨g1, p, none⟩) (hd.k.mono fun i hi => .inr (.inl hi)) (.inl (.inl rfl)) _
  have h9 := hr.put1 hp (OwnI.nil (w := w') (B := B)) (Keeps.refl _ _) (fun b hb => by simp [Value.ownBlock] at hb)
  refine ⟨hr.rows.frozen p, ⟨_, (hr.rows.cell p).trans (rowC_get V hp)⟩, st_far hK.st h6 hp hK9, ?_, d3, by have := h.len; omega, b_far hK.b (Nat.le_trans h.st.hs hK.z) h6 hp hK9⟩
  have e1 : upd (heldF E) p [] = heldF (restE E (p : Nat)) := by
    funext j
    unfold heldF upd
    by_cases e : j = p
    · subst e; rw [if_pos rfl, held_rest_self]
    · rw [if_neg e, held_rest (by omega)]
  rw [← e1]
  exact h9
/-- The row of a task, by its length. -/
theorem OnceS.c1 (h : OnceS B w0 w s g1 g2 D E V m) (hp : p < 4) (hn : (heldE E (p : Nat)).length = n) : ∃ A c, V p = .slice A n c ∧ w.cell? ⟨g1, p, none⟩ = some (.slice A n c) ∧ n ≤ c := by
  subst hn
  obtain ⟨A, c, e, h1, -, h3⟩ := h.cell1 hp
  exact ⟨A, c, e, h1, h3⟩
theorem OnceS.c2 (h : OnceS B w0 w s g1 g2 D E V m) (hr : r < 8) {b : Bool} (hb : lockedB E (r : Nat) = b) : w.cell? ⟨g2, r, none⟩ = some (.bool b) := hb ▸ h.cell2 hr
theorem OnceS.lock_f (h : OnceS B w0 w s g1 g2 D E V m) (hl : E.length < 100000) (hE : lockE 4 D E (p : Nat) (r : Nat) ≠ 0 ∧ lockC 4 D E (p : Nat) (r : Nat) = E) :
    Calls Try.prog 10 #[.pointer (some ⟨s, 0, none⟩), .int .i64 (p : Nat), .int .i64 (r : Nat)] w fun e w' => ∃ z, e = .returned (.int .i64 z) ∧ (z == 0) = false ∧ OnceS B w0 w' s g1 g2 D E V (m + 1) :=
  (lock_k h.st h.b hl rfl hE.2).mono fun e w' ⟨h1, h2⟩ => ⟨_, h1, beq_false_of_ne hE.1, h.same h2⟩
theorem OnceS.unlock_f (h : OnceS B w0 w s g1 g2 D E V m) (hp : p < 4) (he : heldE E (p : Nat) = []) :
    Calls Try.prog 11 #[.pointer (some ⟨s, 0, none⟩), .int .i64 (p : Nat)] w fun e w' => ∃ x, e = .returned (.tuple #[.int .i64 x, .int .i64 132]) ∧ OnceS B w0 w' s g1 g2 D E V (m + 1) :=
  (unlock_k h.st h.b).mono fun e w' ⟨x, z, E', h1, h2, h3⟩ => by
    rcases unl_once h.inv ⟨by omega, by omega⟩ h2 with ⟨_, k, _⟩ | ⟨rfl, _, rfl⟩
    · rw [he] at k
      have := congrArg List.length k
      simp at this
    · exact ⟨x, h1, h.same h3⟩
/-- Unlock went through: what the walk reads and writes then. -/
structure UnlS (B : Nat) (w0 w6 : World) (s g1 g2 : Nat) (D : Nat → Nat → Int) (V : Nat → Value) (m p k x : Nat) (A : Option Addr) (c : Nat) : Prop where
  c1 : w6.cell? ⟨g1, p, none⟩ = some (.slice A (k + 1) c)
  c3 : ∃ b off, A = some ⟨b, off, none⟩ ∧ w6.cell? ⟨b, off + k, none⟩ = some (.int .i64 (x : Nat))
  f2 : w6.frozen? ⟨g2, x, none⟩ = false
  k2 : ∃ u, w6.cell? ⟨g2, x, none⟩ = some u
  k1 : (w6.setCell ⟨g2, x, none⟩ (.bool false)).cell? ⟨g1, p, none⟩ = some (.slice A (k + 1) c)
  f1 : (w6.setCell ⟨g2, x, none⟩ (.bool false)).frozen? ⟨g1, p, none⟩ = false
  fin : ∃ E' V', OnceS B w0 ((w6.setCell ⟨g2, x, none⟩ (.bool false)).setCell ⟨g1, p, none⟩ (.slice A k c)) s g1 g2 D E' V' (m + 1)
theorem OnceS.unlock_t (h : OnceS B w0 w s g1 g2 D E V m) (hp : p < 4) {k : Nat} (hn : (heldE E (p : Nat)).length = k + 1) (hV : V p = .slice A (k + 1) c) :
    Calls Try.prog 11 #[.pointer (some ⟨s, 0, none⟩), .int .i64 (p : Nat)] w fun e w' => ∃ x : Nat, e = .returned (.tuple #[.int .i64 (x : Nat), .int .i64 0]) ∧ x < 8 ∧ UnlS B w0 w' s g1 g2 D V m p k x A c :=
  (unlock_k h.st h.b).mono fun e w' ⟨x, z, E', h1, h2, h3⟩ => by
    rcases unl_once h.inv ⟨by omega, by omega⟩ h2 with ⟨rfl, k1, k2, k3, k4, k5, k6⟩ | ⟨_, k1, _⟩
    · obtain ⟨X, rfl⟩ : ∃ X : Nat, x = (X : Int) := ⟨x.toNat, by omega⟩
      have hX : X < 8 := by omega
      obtain ⟨q1, q2, q3, q4, q5⟩ := h.unl hp hX hV h3 k1 k2 k3 k4 k6 rfl
      have hr := h.r.keep h3.k
      have ho := hr.own p hp
      rw [hV] at ho
      obtain ⟨A', c', e2, -, -, hI, -⟩ := ho.form
      injection e2 with e3 e4 e5
      subst e3
      refine ⟨X, h1, hX, (hr.rows.cell p).trans ((rowC_get V hp).trans (by rw [hV])), ?_, q1, q2, q3, q4, _, _, q5⟩
      obtain ⟨b, off, rfl, _, hx⟩ := hI (by intro e; have e' : heldE E (p : Int) = [] := e; rw [e'] at hn; simp at hn)
      refine ⟨b, off, rfl, hx k _ ?_⟩
      show (heldE E (p : Int))[k]? = some (X : Int)
      have hlen : (heldE E' (p : Int)).length = k := by rw [k1] at hn; simp at hn; exact hn
      rw [k1, List.getElem?_append_right (by omega), hlen, Nat.sub_self]
      rfl
    · rw [k1] at hn
      simp at hn
/-- Drop, as the law meets it. -/
theorem OnceS.drop_t (h : OnceS B w0 w s g1 g2 D E V m) (hp : p < 4) {L : List Int} (hn : (heldE E (p : Nat)).length = n) (hL : (heldE E (p : Nat)).reverse = L) :
    Calls Try.prog 12 #[.pointer (some ⟨s, 0, none⟩), .int .i64 (p : Nat)] w fun e w' => ∃ A c, e = .returned (.slice A n c) ∧ OwnI w' w.heap.size (.slice A n c) L ∧ IntsR w' A L ∧ SK B w0 w s D (restE E (p : Nat)) w' := by
  obtain ⟨d1, d2, _⟩ := drop_once (T := (p : Nat)) h.inv ⟨by omega, by omega⟩
  refine (drop_k h.st h.b).mono fun e w' ⟨o, h1, h2, h3⟩ => ?_
  rw [d2, hL] at h2
  rw [d1] at h3
  obtain ⟨A, c, rfl, -, -, hR, -⟩ := h2.form
  have hnl : L.length = n := by rw [← hL, List.length_reverse, hn]
  rw [hnl] at h1 h2
  exact ⟨A, c, h1, h2, hR, h3⟩
theorem run_slice_0i (w : World) (a : Option Addr) (len cap k : Nat) (hk : k ≤ cap) : (Instr.slice 35 (.slice a len cap) none (some (.int .i64 (k : Nat))) none).run Try.prog w = .ok (.slice a k cap) w := by
  have ht : Try.prog.underlying 35 = some (.slice (Try.prog.elem 35)) := by kernel_rfl
  have hs : (sizeOf (Try.prog.elem 35)).run Try.prog w = .ok 1 w := by kernel_rfl
  rw [run_slice_h w 35 a len cap ht .i64 (k : Nat) (by omega) (by omega), hs]
  simp only [Result.andThen, sliced, Int.toNat_natCast, Nat.sub_zero]
  congr 1
  cases a with
  | none => simp
  | some a => simp [Addr.add]
end
end Go.Proofs.Ytmgcjdedgfiboaa
