/- ClaimOne, walked. -/
import Derived.Test.YtligkfaldaoocaaClmS
import Derived.Test.YtligkfaldaoocaaDosA
import Derived.Test.YtligkfaldaoocaaTurnsW
namespace Go.Proofs.Ytligkfaldaoocaa
set_option linter.unusedVariables false
open Go.RowKit

def wasC (V : Nat → Value) : Array Value := #[.slice none 0 0, V 0, V 1, V 2, V 3]
def inC (f : Nat → Nat) : Array Value := #[.int .i64 (f 0 : Nat), .int .i64 (f 1 : Nat), .int .i64 (f 2 : Nat), .int .i64 (f 3 : Nat)]
theorem wasC_get (V : Nat → Value) {k : Nat} (hk : k < 4) : (wasC V)[k + 1]? = some (V k) := by
  rcases (by omega : k = 0 ∨ k = 1 ∨ k = 2 ∨ k = 3) with rfl | rfl | rfl | rfl <;> rfl
theorem wasC_put (V : Nat → Value) {k : Nat} (hk : k < 4) (v : Value) : (wasC V).setIfInBounds (k + 1) v = wasC (upd V k v) := by
  rcases (by omega : k = 0 ∨ k = 1 ∨ k = 2 ∨ k = 3) with rfl | rfl | rfl | rfl <;> rfl
theorem inC_get (f : Nat → Nat) {k : Nat} (hk : k < 4) : (inC f)[k]? = some (.int .i64 (f k : Nat)) := by
  rcases (by omega : k = 0 ∨ k = 1 ∨ k = 2 ∨ k = 3) with rfl | rfl | rfl | rfl <;> rfl
theorem inC_put (f : Nat → Nat) {k : Nat} (hk : k < 4) (m : Nat) : (inC f).setIfInBounds k (.int .i64 (m : Nat)) = inC (upd f k m) := by
  rcases (by omega : k = 0 ∨ k = 1 ∨ k = 2 ∨ k = 3) with rfl | rfl | rfl | rfl <;> rfl
/-- What the law knows at a round's start. -/
structure OneS (B : Nat) (w0 w : World) (g g1 : Nat) (S : CS) (V : Nat → Value) (m : Nat) : Prop where
  c : ClF B w g S (fun b => b = g1 ∨ ∃ k, k < 4 ∧ (V k).ownBlock = some b)
  was : Blk w g1 40 (wasC V)
  own : ∀ k, k < 4 → OwnI w B (V k) (S.l k)
  g1B : B ≤ g1
  two : NoTwo S
  len : ∀ k, k < 4 → (S.l k).length ≤ m
  b : Below B w0 w
/-- Behind the call of a round. -/
def OneQ (B : Nat) (w0 w : World) (g g1 : Nat) (S S' : CS) (V : Nat → Value) (p m : Nat) : Prop :=
  Step S S' p ∧ NoTwo S' ∧ (∀ k, k < 4 → (S'.l k).length ≤ m + 1) ∧ ClF B w g S' (fun b => b = g1 ∨ ∃ k, k < 4 ∧ (V k).ownBlock = some b) ∧
    Blk w g1 40 (wasC V) ∧ (∀ k, k < 4 → OwnI w B (V k) (S.l k)) ∧ Below B w0 w
theorem OneS.next {B : Nat} {w0 w w' : World} {g g1 : Nat} {S S' : CS} {V : Nat → Value} {m p : Nat} (h : OneS B w0 w g g1 S V m) (hs : Step S S' p ∧ NoTwo S')
    (hQ : FQ B w0 w g S' (fun b => b = g1 ∨ ∃ k, k < 4 ∧ (V k).ownBlock = some b) w') : OneQ B w0 w' g g1 S S' V p m :=
  ⟨hs.1, hs.2, hs.1.len h.len, hQ.c, hQ.k.blk h.was fun e => e (.inl rfl), fun k hk => (h.own k hk).stay hQ.k fun b hb => .inr ⟨k, hk, hb⟩, hQ.b⟩
theorem OwnI.far {w w' : World} {B : Nat} {v : Value} {L : List Int} {F : Nat → Prop} (h : OwnI w B v L) (k : Keeps F w w') (hF : ∀ b, F b → ∃ t cs, Blk w b t cs ∧ t ≠ 3) : OwnI w' B v L :=
  h.keep fun b hb => k.block b (h.lt b hb).2.1 fun e => by
    obtain ⟨_, _, cur, hc⟩ := h.lt b hb
    obtain ⟨t, cs, h1, h2⟩ := hF b e
    exact Blk.ne_ h1 hc h2 rfl
/-- In the loop over the lines. -/
structure KS (w5 w : World) (g1 g2 : Nat) (S' : CS) (V V' : Nat → Value) (K : Nat) : Prop where
  kp : Keeps (fun b => b = g1 ∨ b = g2) w5 w
  was : Blk w g1 40 (wasC V')
  cnt : Blk w g2 41 (inC fun y => cntTo S' y (K - 1))
  new : ∀ j, j < K - 1 → OwnI w w5.heap.size (V' j) (S'.l j)
  old : ∀ j, K - 1 ≤ j → V' j = V j
theorem lineL_at (S : CS) {K : Nat} (h1 : 1 ≤ K) (h4 : K ≤ 4) : lineL S (K : Int) = S.l (K - 1) := by
  unfold lineL
  rw [if_pos (by omega), Int.toNat_natCast]
theorem hold_at {B g : Nat} {w : World} {S : CS} (h : ClX B w g S) {K : Nat} (h1 : 1 ≤ K) (h4 : K ≤ 4) (hb : holdB S (K : Int) = true) : ∃ T, S.l (K - 1) = holdN S (K : Int) :: T := by
  obtain ⟨V, h⟩ := h
  unfold holdB at hb
  have hb2 : S.h (K - 1) = true := by
    have := hb
    rw [Int.toNat_natCast] at this
    simp at this
    exact this.2
  have hne := h.held (K - 1) (by omega) hb2
  cases hl : S.l (K - 1) with
  | nil => exact absurd hl hne
  | cons x T =>
    refine ⟨T, ?_⟩
    unfold holdN
    rw [Int.toNat_natCast, if_pos ⟨by omega, by omega, hb2⟩, hl]
    rfl
def cntJ (S : CS) (K j : Nat) (y : Nat) : Nat := cntTo S (y : Int) (K - 1) + ((S.l (K - 1)).take j).count (y : Int)
theorem cntJ_le {S : CS} (h : NoTwo S) {K : Nat} (h1 : 1 ≤ K) (h4 : K ≤ 4) (j y : Nat) : cntJ S K j y ≤ 1 := by
  have h2 : cntJ S K j y ≤ cntTo S (y : Int) (K - 1 + 1) := Nat.add_le_add_left (List.Sublist.count_le _ (List.take_sublist _ _)) _
  have h3 := cntTo_mono S (y : Int) (show K - 1 + 1 ≤ 4 by omega)
  have := h.one (y : Int)
  omega
theorem cntJ_succ {S : CS} {K j X : Nat} (hx : (S.l (K - 1))[j]? = some (X : Int)) : upd (cntJ S K j) X (cntJ S K j X + 1) = cntJ S K (j + 1) := by
  funext y
  unfold cntJ upd
  rw [List.take_add_one, hx]
  split
  · next h => subst h; simp; omega
  · next h => simp; rw [List.count_singleton, if_neg (by simp; omega)]
theorem cntJ_zero (S : CS) (K : Nat) : cntJ S K 0 = fun y : Nat => cntTo S (y : Int) (K - 1) := by
  funext y
  simp [cntJ]
theorem cntJ_end (S : CS) {K : Nat} (h1 : 1 ≤ K) : cntJ S K (S.l (K - 1)).length = fun y : Nat => cntTo S (y : Int) (K + 1 - 1) := by
  funext y
  unfold cntJ
  rw [List.take_length, show K + 1 - 1 = (K - 1) + 1 by omega]
  rfl
theorem OneS.below {B : Nat} {w0 w w' : World} {g g1 : Nat} {S : CS} {V : Nat → Value} {m : Nat} (h : OneS B w0 w g g1 S V m) (k : Below w.heap.size w w') : OneS B w0 w' g g1 S V m :=
  ⟨h.c.below k, h.was.below k h.was.lt, fun k' hk => (h.own k' hk).below k, h.g1B, h.two, h.len, below_lift h.b k h.c.hs⟩
theorem OneS.drewN {B : Nat} {w0 w : World} {g g1 : Nat} {S : CS} {V : Nat → Value} {m : Nat} (h : OneS B w0 w g g1 S V m) (n : Nat) : OneS B w0 (w.drewN n) g g1 S V m :=
  have k := below_drewN (Below.refl w.heap.size w) n
  ⟨h.c.below k, h.was.drewN n, fun k' hk => (h.own k' hk).below k, h.g1B, h.two, h.len, below_drewN h.b n⟩
set_option maxRecDepth 20000 in
set_option maxHeartbeats 1600000 in
theorem one_c (A : Option Addr) (n c : Nat) (D : Nat → Nat → Int) (w : World) (hn : n ≤ 1152921504606846976) (h : DosAt w A n D) :
    Calls Try.prog 4 #[.slice A n c] w fun e w' => e = .returned (.bool true) ∧ Below w.heap.size w w' := by
  have HR := Lib.hid h
  clear h
  go_enter Try.func4, Try.ntmps4
  go_wp2_with (first
    | (go_at_call 7; with_reducible refine (new_x w1 hB1 hB1.size).mono ?_; rintro e w2 ⟨g, rfl, h2, hB2⟩)
    | (go_at_call 19; with_reducible refine (works_c w).mono ?_; rintro e w1 ⟨rfl, hB1⟩))
  have H0 : Hid (OneS w.heap.size w (w2.alloc (.cells #[.slice none 0 0, .slice none 0 0, .slice none 0 0, .slice none 0 0, .slice none 0 0] 40)) g w2.heap.size noC noV 0) := by
    refine ⟨h2.f.keep (Keeps.alloc (Keeps.refl _ _) _) fun b hb => ?_, Blk.new _ _ _, fun k hk => OwnI.nil, h2.hs, noTwo_noC, fun k hk => by simp [noC], hB2.alloc h2.hs _⟩
    rcases hb with rfl | ⟨k, hk, hb⟩
    · exact ⟨.inr (Nat.le_refl _), by simp⟩
    · simp [noV, Value.ownBlock] at hb
  generalize w2.alloc (.cells #[.slice none 0 0, .slice none 0 0, .slice none 0 0, .slice none 0 0, .slice none 0 0] 40) = w3 at *
  generalize w2.heap.size = g1 at *
  clear h2 hB2 hB1
  go_loopw [5] (fun y wr => ∃ (i : Nat) (S : CS) (V : Nat → Value), i ≤ n ∧ i ≤ 100 ∧ y = .int .i64 i ∧ OneS w.heap.size w wr g g1 S V i) (fun y _ => 100 - (intOf y).toNat)
  case atStart => exact ⟨0, noC, noV, by omega, by omega, rfl, H0.out⟩
  case round =>
    clear H0
    obtain ⟨i, S, V, hi, hi100, rfl, hT⟩ := hrel
    by_cases hlt : (i : Int) < (n : Nat) ∧ (i : Int) < 100
    · obtain ⟨hlt1, hlt2⟩ := hlt
      have hB := hT.b
      obtain ⟨b, off, rfl, hb, hx⟩ := HR.out (by omega)
      obtain ⟨o0, o1, o2⟩ := hx i (by omega)
      have c0 := (hB.cell (p := ⟨b, off + i * 3, none⟩) hb).trans o0
      have c1 := (hB.cell (p := ⟨b, off + i * 3 + 1, none⟩) hb).trans o1
      have c2 := (hB.cell (p := ⟨b, off + i * 3 + 2, none⟩) hb).trans o2
      obtain ⟨p, hp⟩ : ∃ p, bringN (D i 1) 4 = p := ⟨_, rfl⟩
      have hp4 : p < 4 := hp ▸ bringN_lt (D i 1) 4 (by omega)
      have hBp : ∀ w, Calls Try.prog 9 #[.int .i64 (D i 1), .int .i64 4] w fun e w' => e = .returned (.int .i64 (p : Nat)) ∧ w' = w := fun w => (hp ▸ bring_n (D i 1) 4 4 w rfl (by omega) (by omega)).mono fun e w' ⟨k1, k2⟩ => ⟨k1, k2.symm⟩
      obtain ⟨r, hr⟩ : ∃ p, bringN (D i 2) 4 = p := ⟨_, rfl⟩
      have hr4 : r < 4 := hr ▸ bringN_lt (D i 2) 4 (by omega)
      have hBr : ∀ w, Calls Try.prog 9 #[.int .i64 (D i 2), .int .i64 4] w fun e w' => e = .returned (.int .i64 (r : Nat)) ∧ w' = w := fun w => (hr ▸ bring_n (D i 2) 4 4 w rfl (by omega) (by omega)).mono fun e w' ⟨k1, k2⟩ => ⟨k1, k2.symm⟩
      obtain ⟨q, hq⟩ : ∃ p, bringN (D i 0) 5 = p := ⟨_, rfl⟩
      have hq5 : q < 5 := hq ▸ bringN_lt (D i 0) 5 (by omega)
      have hBq : ∀ w, Calls Try.prog 9 #[.int .i64 (D i 0), .int .i64 5] w fun e w' => e = .returned (.int .i64 (q : Nat)) ∧ w = w' := fun w => hq ▸ bring_n (D i 0) 5 5 w rfl (by omega) (by omega)
      have hw : wrap64 (1 + (r : Int)) = 1 + (r : Int) := IntWalk.wrap64_in _ (by omega)
      have hi1 : i + 1 ≤ n := by omega
      have hi2 : i + 1 ≤ 100 := by omega
      have HT := Lib.hid hT
      clear hx o0 o1 o2 hp hr hq hT hB
      obtain ⟨P, hP⟩ : ∃ P : Int, P = (p : Nat) := ⟨_, rfl⟩
      obtain ⟨R, hRr⟩ : ∃ P : Int, P = (r : Nat) := ⟨_, rfl⟩
      obtain ⟨Q, hQ⟩ : ∃ P : Int, P = (q : Nat) := ⟨_, rfl⟩
      rw [← hP] at hBp
      rw [← hRr] at hBr hw
      have hr3 : 0 ≤ R ∧ R < 4 := by omega
      rw [← hQ] at hBq
      have HP := Lib.hid hP
      have HRR := Lib.hid hRr
      have HQ := Lib.hid hQ
      clear hP hRr hQ
      go_wp2_with fail
      go_quiet ((first
        | (go_at_call 9; with_reducible exact Calls.quiet_of_same (hBp _))
        | (go_at_call 9; with_reducible exact Calls.quiet_of_same (hBr _))))
      have HW : Hid (1 ≤ 1 + R ∧ 1 + R ≤ 4) := by show 1 ≤ 1 + R ∧ 1 + R ≤ 4; omega
      clear hw
      go_upto_block 2 with (go_at_call 9; with_reducible refine (hBq _).mono ?_; rintro e w4 ⟨rfl, rfl⟩)
      have HT2 : Hid (OneS w.heap.size w (wr.drewN nq) g g1 S V i) := HT.out.drewN nq
      generalize wr.drewN nq = wA at *
      clear HT c0 c1 c2 hBp hBr hBq
      go_cut [] (fun wx => ∃ S', OneQ w.heap.size w wx g g1 S S' V p i)
      case first =>
        -- <A
        have hAsk := ask_f (p := P) (r := 1 + R) HT2.out.c HT2.out.b (fun k hk => by have := HT2.out.len k hk; omega) rfl rfl rfl
        have hHold := hold_f (p := P) (r := 1 + R) HT2.out.c HT2.out.b rfl rfl
        have hGive := give_f (p := P) (r := 1 + R) HT2.out.c HT2.out.b rfl rfl
        have hDrop := drop_f (p := P) HT2.out.c HT2.out.b rfl rfl
        have HA := Lib.hid hAsk
        have HH := Lib.hid hHold
        have HG := Lib.hid hGive
        have HD := Lib.hid hDrop
        have hSa := step_ask (p := P) (r := 1 + R) HT2.out.two (by rw [HP.out]; omega) (by rw [HP.out]; omega) HW.out.1 HW.out.2
        have hSh := step_hold (p := P) (r := 1 + R) HT2.out.two
        have hSg := step_give (p := P) (r := 1 + R) HT2.out.two
        have hSd := step_drop (p := P) HT2.out.two
        have KA := Lib.hid hSa
        have KH := Lib.hid hSh
        have KG := Lib.hid hSg
        have KD := Lib.hid hSd
        clear hAsk hHold hGive hDrop hSa hSh hSg hSd
        have HQQ := HQ.out
        rcases (by omega : q = 0 ∨ q = 1 ∨ q = 2 ∨ q = 3 ∨ q = 4) with rfl | rfl | rfl | rfl | rfl
        · obtain rfl : Q = 0 := HQQ
          go_wp2_with (go_at_call 10; with_reducible refine HA.out.mono ?_; rintro e w5 ⟨rfl, hQ5⟩)
          go_meet
          exact ⟨_, HT2.out.next (HP.out ▸ KA.out) hQ5⟩
        · obtain rfl : Q = 1 := HQQ
          go_wp2_with (go_at_call 10; with_reducible refine HA.out.mono ?_; rintro e w5 ⟨rfl, hQ5⟩)
          go_meet
          exact ⟨_, HT2.out.next (HP.out ▸ KA.out) hQ5⟩
        · obtain rfl : Q = 2 := HQQ
          go_wp2_with (go_at_call 12; with_reducible refine HH.out.mono ?_; rintro e w5 ⟨rfl, hQ5⟩)
          go_meet
          exact ⟨_, HT2.out.next (HP.out ▸ KH.out) hQ5⟩
        · obtain rfl : Q = 3 := HQQ
          go_wp2_with (go_at_call 14; with_reducible refine HG.out.mono ?_; rintro e w5 ⟨rfl, hQ5⟩)
          go_meet
          exact ⟨_, HT2.out.next (HP.out ▸ KG.out) hQ5⟩
        · obtain rfl : Q = 4 := HQQ
          go_wp2_with (go_at_call 16; with_reducible refine HD.out.mono ?_; rintro e w5 ⟨rfl, hQ5⟩)
          go_meet
          exact ⟨_, HT2.out.next (HP.out ▸ KD.out) hQ5⟩
        -- A>
      case rest =>
        obtain ⟨S', hst, htw, hln, hcl, hws, hown, hBc⟩ := hcut
        have hI5 : Blk (wc.alloc (.cells #[.int .i64 0, .int .i64 0, .int .i64 0, .int .i64 0] 41)) wc.heap.size 41 (inC fun y => cntTo S' y (1 - 1)) := Blk.new _ _ _
        have hW5 := hws.alloc (.cells #[.int .i64 0, .int .i64 0, .int .i64 0, .int .i64 0] 41)
        have hO5 : ∀ k, k < 4 → OwnI (wc.alloc (.cells #[.int .i64 0, .int .i64 0, .int .i64 0, .int .i64 0] 41)) w.heap.size (V k) (S.l k) := fun k hk => (hown k hk).below ((Below.refl _ _).alloc (Nat.le_refl _) _)
        have hC5 : ClF w.heap.size (wc.alloc (.cells #[.int .i64 0, .int .i64 0, .int .i64 0, .int .i64 0] 41)) g S' (fun b => b = g1 ∨ b = wc.heap.size) := hcl.keep (Keeps.alloc (Keeps.refl _ _) _) fun b hb => by
          rcases hb with rfl | rfl
          · exact ⟨.inl (.inl rfl), hW5.lt⟩
          · exact ⟨.inr (Nat.le_refl _), hI5.lt⟩
        have hB5 : Below w.heap.size w (wc.alloc (.cells #[.int .i64 0, .int .i64 0, .int .i64 0, .int .i64 0] 41)) := hBc.alloc hcl.hs _
        have hg12 : g1 ≠ wc.heap.size := Blk.ne_ hW5 hI5 (by decide)
        have hgB : w.heap.size ≤ g1 ∧ w.heap.size ≤ wc.heap.size := ⟨HT2.out.g1B, hBc.size⟩
        have HLO : Hid (∀ k, k < 4 → (S.l k).length ≤ i) := HT2.out.len
        clear hcl hws hown hBc HT2
        go_wp2_with fail
        generalize wc.alloc (.cells #[.int .i64 0, .int .i64 0, .int .i64 0, .int .i64 0] 41) = w5 at *
        generalize wc.heap.size = g2 at *
        have HK0 : Hid (KS w5 w5 g1 g2 S' V V 1) := ⟨Keeps.refl _ _, hW5, hI5, fun j hj => by omega, fun j _ => rfl⟩
        have HO5 := Lib.hid hO5
        have HW5 := Lib.hid hW5
        have HI5 := Lib.hid hI5
        have HC5 := Lib.hid hC5
        have HB5 := Lib.hid hB5
        have HST := Lib.hid hst
        have HTW := Lib.hid htw
        have HLN := Lib.hid hln
        clear hI5 hW5 hO5 hC5 hB5 hst htw hln
        go_loopw [9] (fun y wr => ∃ (K : Nat) (V' : Nat → Value), 1 ≤ K ∧ K ≤ 5 ∧ y = .int .i64 K ∧ KS w5 wr g1 g2 S' V V' K) (fun y _ => 5 - (intOf y).toNat)
        case atStart => exact ⟨1, V, by omega, by omega, rfl, HK0.out⟩
        case round =>
          clear HK0
          obtain ⟨K, V', hK1, hK5, rfl, hKS⟩ := hrel
          have HKS := Lib.hid hKS
          have HBr : Hid (Below w.heap.size w wr) := Below.keeps HB5.out hKS.kp HB5.out.size (fun b hb => by rcases hb with rfl | rfl; exact hgB.1; exact hgB.2)
          have hCr : ClF w.heap.size wr g S' (fun _ => False) := HC5.out.keep hKS.kp fun b hb => hb.elim
          by_cases hlt : (K : Int) < 5
          · have hK4 : K ≤ 4 := by omega
            have HO : Hid (OwnI wr w.heap.size (V (K - 1)) (S.l (K - 1))) := (HO5.out (K - 1) (by omega)).far hKS.kp fun b hb => by
              rcases hb with rfl | rfl
              · exact ⟨_, _, HW5.out, by decide⟩
              · exact ⟨_, _, HI5.out, by decide⟩
            obtain ⟨Ao, co, hVK, hco, hAo, -⟩ := HO.out.form
            have hLine := line_f (r := (K : Int)) hCr HBr.out (lineL_at S' hK1 hK4)
            obtain ⟨hv, hhv⟩ : ∃ x, holdN S' (K : Int) = x := ⟨_, rfl⟩
            obtain ⟨hb, hhb⟩ : ∃ x, holdB S' (K : Int) = x := ⟨_, rfl⟩
            have HF : Hid (hb = true → ∃ T, S'.l (K - 1) = hv :: T) := fun e => by rw [← hhv]; exact hold_at hCr.x hK1 hK4 (hhb.trans e)
            have HL := Lib.hid hLine
            have HHV := Lib.hid hhv
            have HHB := Lib.hid hhb
            have hLl : (S'.l (K - 1)).length ≤ 101 := by have := HLN.out (K - 1) (by omega); omega
            have hLo : (S.l (K - 1)).length ≤ 101 := by have := HLO.out (K - 1) (by omega); omega
            clear hKS hCr hLine hhv hhb hAo
            obtain ⟨M, hM⟩ : ∃ M, S'.l (K - 1) = M := ⟨_, rfl⟩
            obtain ⟨L, hL⟩ : ∃ M, S.l (K - 1) = M := ⟨_, rfl⟩
            rw [hM] at HL HF hLl
            rw [hL] at HO hVK hco hLo
            have HM := Lib.hid hM
            have HLL := Lib.hid hL
            have HVK := Lib.hid hVK
            clear hM hL hVK
            go_upto_region 24 with (first
              | (go_at_call 20; with_reducible refine HL.out.mono ?_; rintro e w6 ⟨A6, c6, rfl, hc6, hR6, hO6, hb6, hC6, hK6, hB6⟩; have HH := Lib.hid (holder_f hC6 hB6 HHV.out HHB.out))
              | (go_at_call 21; with_reducible refine HH.out.mono ?_; rintro e w7 ⟨rfl, hb7, hC7, hK7, hB7⟩))
            have HR7 : Hid (IntsR w7 A6 M) := hR6.below hb7
            have HO7 : Hid (OwnI w7 wr.heap.size (.slice A6 M.length c6) M) := hO6.below hb7
            have HB7 : Hid (Below wr.heap.size wr w7) := below_lift hb6 hb7 hb6.size
            clear hR6 hO6 hb6 hb7 hC6 hK6 hB6 hC7 hK7 hB7 HL HH
            obtain ⟨wH, rfl⟩ : ∃ x : World, x = w7 := ⟨_, rfl⟩
            go_cut [96] (fun v wx => v = .bool false ∧ wx = wH)
            case first =>
              -- <B
              cases hb with
              | false =>
                go_wp2_with fail
                go_meet
                exact ⟨rfl, rfl⟩
              | true =>
                obtain ⟨T, hT⟩ := HF.out rfl
                obtain ⟨b6, off6, rfl, hb6, hx6⟩ := HR7.out (by rw [hT]; simp)
                have o6 : wH.cell? ⟨b6, off6, none⟩ = some (.int .i64 hv) := hx6 0 hv (by rw [hT]; rfl)
                have hM0 : 0 < M.length := by rw [hT]; simp
                have hl0 : ((M.length : Int) == 0) = false := beq_false_of_ne (by omega)
                clear hx6 hT
                go_wp2_with fail
                go_meet
                exact ⟨by simp, rfl⟩
              -- B>
            case rest =>
              obtain ⟨rfl, rfl⟩ := hcut
              obtain ⟨wH, rfl⟩ : ∃ x : World, x = wc := ⟨_, rfl⟩
              have HKW : Hid (KS w5 wH g1 g2 S' V V' K) := ⟨HKS.out.kp.below HB7.out, HKS.out.was.below HB7.out HKS.out.was.lt, HKS.out.cnt.below HB7.out HKS.out.cnt.lt, fun j hj => (HKS.out.new j hj).below HB7.out, HKS.out.old⟩
              have HOH := Lib.hid (HO.out.below HB7.out)
              have HBH : Hid (w5.heap.size ≤ wr.heap.size) := HKS.out.kp.size
              have hI0 : Blk wH g2 41 (inC (cntJ S' K 0)) := by rw [cntJ_zero]; exact HKW.out.cnt
              clear HKS HO HB7 HBr
              go_wp2_with fail
              go_loopw [13] (fun y wx => ∃ j : Nat, j ≤ M.length ∧ y = .int .i64 j ∧ Keeps (fun b => b = g2) wH wx ∧ Blk wx g2 41 (inC (cntJ S' K j))) (fun y _ => M.length - (intOf y).toNat)
              case atStart => exact ⟨0, by omega, rfl, Keeps.refl _ _, hI0⟩
              case round =>
                clear hI0
                obtain ⟨j, hj, rfl, hkp, hI⟩ := hrel
                by_cases hlt2 : (j : Int) < (M.length : Nat)
                · -- <C
                  obtain ⟨x, hx⟩ : ∃ x, M[j]? = some x := ⟨_, List.getElem?_eq_getElem (by omega)⟩
                  have hxr := HTW.out.is (K - 1) (by omega) x (by rw [HM.out]; exact List.mem_of_getElem? hx)
                  obtain ⟨X, rfl⟩ : ∃ X : Nat, x = X := ⟨x.toNat, by omega⟩
                  have hX4 : X < 4 := by omega
                  obtain ⟨b6, off6, rfl, hb6, hx6⟩ := (HO7.out.far hkp fun b hb => by subst hb; exact ⟨_, _, HKW.out.cnt, by decide⟩).form |> fun ⟨A', c', e, _, _, h, _⟩ => (by injection e with e1 e2 e3; subst e1; exact h : IntsR wr A6 M) (by rintro rfl; simp at hx)
                  have o6 := hx6 j _ hx
                  have hBx : ∀ w, Calls Try.prog 9 #[.int .i64 (X : Nat), .int .i64 4] w fun e w' => e = .returned (.int .i64 (X : Nat)) ∧ w = w' := fun w => (bring_c (X : Int) 4 w (by omega) (by omega)).mono fun e w' ⟨k1, k2⟩ => ⟨by rw [k1, Int.emod_eq_of_lt (by omega) (by omega)], k2⟩
                  have cX : wr.cell? ⟨g2, X, none⟩ = some (.int .i64 (cntJ S' K j X : Nat)) := (hI.cell X).trans (inC_get _ hX4)
                  have fX := hI.frozen X
                  have hm1 := cntJ_le HTW.out hK1 hK4 j X
                  have HP2 : Hid (Blk (wr.setCell ⟨g2, X, none⟩ (.int .i64 ((cntJ S' K j X + 1 : Nat) : Int))) g2 41 (inC (cntJ S' K (j + 1)))) := by
                    have := hI.set_ X (.int .i64 ((cntJ S' K j X + 1 : Nat) : Int))
                    rw [inC_put _ hX4, cntJ_succ (by rw [HM.out]; exact hx)] at this
                    exact this
                  have HKP := Lib.hid hkp
                  obtain ⟨m0, hm0⟩ : ∃ m0, cntJ S' K j X = m0 := ⟨_, rfl⟩
                  rw [hm0] at cX hm1 HP2
                  clear hx hx6 hkp hI hm0 hxr
                  go_wp2_with (go_at_call 9; with_reducible refine (hBx _).mono ?_; rintro e w8 ⟨rfl, rfl⟩)
                  go_roundw
                  case rel => exact ⟨j + 1, by omega, rfl, HKP.out.setCell (.inl rfl) _, HP2.out⟩
                  case measure => simp [intOf]; omega
                  -- C>
                · obtain rfl : M.length = j := by omega
                  have hI1 : Blk wr g2 41 (inC fun y : Nat => cntTo S' (y : Int) (K + 1 - 1)) := by
                    rw [← HM.out, cntJ_end S' hK1] at hI
                    exact hI
                  have hW1 : Blk wr g1 40 (wasC V') := hkp.blk HKW.out.was hg12
                  have hKP1 : Keeps (fun b => b = g1 ∨ b = g2) w5 wr := HKW.out.kp.trans hkp fun b hb => .inl (.inr hb)
                  have hfar : ∀ b, b = g2 → ∃ t cs, Blk wH b t cs ∧ t ≠ 3 := fun b hb => by subst hb; exact ⟨_, _, HKW.out.cnt, by decide⟩
                  have hNew1 : ∀ j, j < K - 1 → OwnI wr w5.heap.size (V' j) (S'.l j) := fun j hj => (HKW.out.new j hj).far hkp hfar
                  have hO1 := HO7.out.far hkp hfar
                  have hOo1 := HOH.out.far hkp hfar
                  rw [HVK.out] at hOo1
                  have HR1 : Hid (IntsR wr A6 M) := (own_row hO1).2.2
                  have HRo1 : Hid (IntsR wr Ao L) := (own_row hOo1).2.2
                  have cW : wr.cell? ⟨g1, K, none⟩ = some (.slice Ao L.length co) := by
                    have := (hW1.cell (K - 1 + 1)).trans (wasC_get V' (k := K - 1) (by omega))
                    rw [show K - 1 + 1 = K by omega, HKW.out.old (K - 1) (Nat.le_refl _), HVK.out] at this
                    exact this
                  have HCW := Lib.hid cW
                  have HI1 := Lib.hid hI1
                  have HW1 := Lib.hid hW1
                  have HKP1 := Lib.hid hKP1
                  have HN1 := Lib.hid hNew1
                  have HO1 := Lib.hid hO1
                  have hg1 : g1 < wr.heap.size := hW1.lt
                  have HS : Hid (M = L ∨ M = L ++ [P] ∨ M = others L P) := by
                    have := HST.out (K - 1) (by omega)
                    rw [HM.out, HLL.out, ← HP.out] at this
                    exact this
                  clear hI hI1 hW1 hKP1 hfar hNew1 hO1 hOo1 cW hkp hlt2 hj
                  obtain ⟨wI, rfl⟩ : ∃ x : World, x = wr := ⟨_, rfl⟩
                  go_wp2_with fail
                  go_loopw [14, 15] (fun x y wx => ∃ (j : Nat) (a : Nat), j ≤ L.length ∧ x = .int .i64 a ∧ y = .int .i64 j ∧ Hid (a = atE L M P j) ∧ Below wI.heap.size wI wx) (fun _ y _ => L.length - (intOf y).toNat)
                  case atStart => exact ⟨0, 0, by omega, rfl, rfl, Lib.hid atE_zero.symm, Below.refl _ _⟩
                  case round =>
                    obtain ⟨j, a, hj, rfl, rfl, ha, hB8⟩ := hrel
                    have cW := (hB8.cell (p := ⟨g1, K, none⟩) hg1).trans HCW.out
                    by_cases hlt3 : (j : Int) < (L.length : Nat)
                    · -- <D
                      obtain ⟨x, hx⟩ : ∃ x, L[j]? = some x := ⟨_, List.getElem?_eq_getElem (by omega)⟩
                      obtain ⟨bo, offo, rfl, hbo, hxo⟩ := HRo1.out (by rintro rfl; simp at hx)
                      have oo := (hB8.cell (p := ⟨bo, offo + j, none⟩) hbo).trans (hxo j _ hx)
                      have haj := atE_le L M P j
                      have hstep := atE_step HS.out hx
                      rw [← ha.out] at haj hstep
                      have hj1 : j < L.length := by omega
                      clear hxo hx
                      rcases hstep with ⟨y, hy, rfl, ht⟩ | ⟨hy, rfl, ht⟩
                      · have haM : a < M.length := (List.getElem?_eq_some_iff.1 hy).1
                        obtain ⟨b6, off6, rfl, hb6, hx6⟩ := HR1.out (by rintro rfl; simp at hy)
                        have o6 := (hB8.cell (p := ⟨b6, off6 + a, none⟩) hb6).trans (hx6 a _ hy)
                        have HTT := Lib.hid ht
                        clear hx6 hy ht
                        go_wp2_with fail
                        go_quiet (fail)
                        go_wp2
                        go_roundw
                        case rel => exact ⟨j + 1, a + 1, by omega, rfl, rfl, HTT.out.symm, below_drewN hB8 _⟩
                        case measure => simp [intOf]; omega
                      · have HTT := Lib.hid ht
                        by_cases haM : (a : Int) < (M.length : Nat)
                        · obtain ⟨y, hyy⟩ : ∃ y, M[a]? = some y := ⟨_, List.getElem?_eq_getElem (by omega)⟩
                          have hne := hy y hyy
                          have hne2 : (y == x) = false := beq_false_of_ne hne
                          obtain ⟨b6, off6, rfl, hb6, hx6⟩ := HR1.out (by rintro rfl; simp at hyy)
                          have o6 := (hB8.cell (p := ⟨b6, off6 + a, none⟩) hb6).trans (hx6 a _ hyy)
                          clear hx6 hyy hy hne ht
                          go_wp2_with fail
                          go_quiet (fail)
                          go_wp2
                          go_roundw
                          case rel => exact ⟨j + 1, a, by omega, rfl, rfl, HTT.out.symm, below_drewN hB8 _⟩
                          case measure => simp [intOf]; omega
                        · have hd : decide ((a : Int) < (M.length : Nat)) = false := decide_eq_false haM
                          have hd2 : decide (a < M.length) = false := decide_eq_false (by omega)
                          have hd3 : ¬ a < M.length := by omega
                          clear hy ht
                          go_wp2_with fail
                          go_quiet (fail)
                          go_wp2
                          go_roundw
                          case rel => exact ⟨j + 1, a, by omega, rfl, rfl, HTT.out.symm, below_drewN hB8 _⟩
                          case measure => simp [intOf]; omega
                      -- D>
                    · obtain rfl : L.length = j := by omega
                      have hend := atE_end HS.out
                      rw [← ha.out] at hend
                      have hW8 := HW1.out.below hB8 hg1
                      have hI8 := HI1.out.below hB8 HI1.out.lt
                      have hfr := hW8.frozen K
                      have hO8 := HO1.out.below hB8
                      have HKF : Hid (KS w5 (wr.setCell ⟨g1, K, none⟩ (.slice A6 M.length c6)) g1 g2 S' V (upd V' (K - 1) (.slice A6 M.length c6)) (K + 1)) := by
                        have hW9 := hW8.set_ K (.slice A6 M.length c6)
                        rw [show K = (K - 1) + 1 by omega, wasC_put _ (by omega), show K - 1 + 1 = K by omega] at hW9
                        have hK9 : Keeps (fun b => b = g1) wr (wr.setCell ⟨g1, K, none⟩ (.slice A6 M.length c6)) := Keeps.setCell (S := fun b => b = g1) (Keeps.refl _ _) (.inl rfl) _
                        have hf9 : ∀ b, b = g1 → ∃ t cs, Blk wr b t cs ∧ t ≠ 3 := fun b hb => by subst hb; exact ⟨_, _, hW8, by decide⟩
                        refine ⟨(HKP1.out.below hB8).trans hK9 fun b hb => .inl (.inl hb), hW9, hI8.far (fun e => hg12 e.symm) _, fun j hj => ?_, fun j hj => ?_⟩
                        · by_cases e : j = K - 1
                          · subst e
                            rw [upd_self, HM.out]
                            exact (hO8.mono HBH.out).far hK9 hf9
                          · rw [upd_other _ _ e]
                            exact ((HN1.out j (by omega)).below hB8).far hK9 hf9
                        · rw [upd_other _ _ (by omega)]
                          exact HKW.out.old j (by omega)
                      clear hW8 hI8 hO8
                      rcases hend with he | ⟨he, hp⟩
                      · have hd : decide ((a : Int) < (M.length : Nat)) = false := decide_eq_false (by omega)
                        have hd2 : decide (a < M.length) = false := decide_eq_false (by omega)
                        have hd3 : ¬ a < M.length := by omega
                        clear he
                        go_wp2_with fail
                        go_roundw
                        case rel => exact ⟨K + 1, _, by omega, by omega, rfl, HKF.out⟩
                        case measure => simp [intOf]; omega
                      · have haM : (a : Int) < (M.length : Nat) := by omega
                        have hs1 : (M.length : Int) - 1 = (a : Int) := by omega
                        have hs2 : wrap64 ((M.length : Int) - 1) = (a : Int) := by rw [IntWalk.wrap64_in _ (by omega)]; omega
                        obtain ⟨b6, off6, rfl, hb6, hx6⟩ := HR1.out (by rintro rfl; simp at hp)
                        have o6 := (hB8.cell (p := ⟨b6, off6 + a, none⟩) hb6).trans (hx6 a _ hp)
                        have HE := Lib.hid he
                        clear he hp hx6
                        go_wp2_with fail
                        go_roundw
                        case rel => exact ⟨K + 1, _, by omega, by omega, rfl, HKF.out⟩
                        case measure => simp [intOf]; omega
          · obtain rfl : 5 = K := by omega
            -- <E
            have hI9 : Blk wr g2 41 (inC fun y : Nat => cntTo S' (y : Int) 4) := hKS.cnt
            have HOS : Hid (OneS w.heap.size w wr g g1 S' V' (i + 1)) := by
              have hlt9 : ∀ k, k < 4 → ∀ b, (V' k).ownBlock = some b → w5.heap.size ≤ b ∧ b < wr.heap.size := fun k hk b hb => ⟨((hKS.new k hk).lt b hb).1, ((hKS.new k hk).lt b hb).2.1⟩
              refine ⟨HC5.out.keep hKS.kp fun b hb => ?_, hKS.was, fun k hk => (hKS.new k hk).mono HB5.out.size, hgB.1, HTW.out, HLN.out, HBr.out⟩
              rcases hb with rfl | ⟨k, hk, hb⟩
              · exact ⟨.inl (.inl rfl), hKS.was.lt⟩
              · exact ⟨.inr (hlt9 k hk b hb).1, (hlt9 k hk b hb).2⟩
            have HI9 := Lib.hid hI9
            have hg2 : g2 < wr.heap.size := hI9.lt
            clear hKS hCr HKS HBr hI9
            obtain ⟨wK, rfl⟩ : ∃ x : World, x = wr := ⟨_, rfl⟩
            go_wp2_with fail
            go_loopw [16] (fun y wx => ∃ j : Nat, j ≤ 4 ∧ y = .int .i64 j ∧ Below wK.heap.size wK wx) (fun y _ => 4 - (intOf y).toNat)
            case atStart => exact ⟨0, by omega, rfl, Below.refl _ _⟩
            case round =>
              obtain ⟨j, hj, rfl, hB9⟩ := hrel
              by_cases hlt4 : (j : Int) < 4
              · have hm1 := HTW.out.one (j : Int)
                obtain ⟨m0, hm0⟩ : ∃ m0, cntTo S' (j : Int) 4 = m0 := ⟨_, rfl⟩
                have cJ := (hB9.cell (p := ⟨g2, j, none⟩) hg2).trans ((HI9.out.cell j).trans (inC_get _ (by omega)))
                rw [hm0] at hm1
                simp only [hm0] at cJ
                have hd : decide ((m0 : Int) > 1) = false := decide_eq_false (by omega)
                have hd2 : decide (1 < m0) = false := decide_eq_false (by omega)
                have hd3 : ¬ 1 < m0 := by omega
                clear hm0
                go_wp2_with fail
                go_roundw
                case rel => exact ⟨j + 1, by omega, rfl, hB9⟩
                case measure => simp [intOf]; omega
              · obtain rfl : 4 = j := by omega
                go_wp2_with fail
                go_roundw
                case rel => exact ⟨i + 1, S', V', hi1, hi2, rfl, HOS.out.below hB9⟩
                case measure => simp [intOf]; omega
            -- E>
    · rcases (by omega : (n : Int) ≤ i ∨ (100 : Int) ≤ i) with hge | hge
      · go_wp2_with fail
        all_goals go_ret
        all_goals exact ⟨rfl, hT.b⟩
      · go_wp2_with fail
        all_goals go_ret
        all_goals exact ⟨rfl, hT.b⟩
end Go.Proofs.Ytligkfaldaoocaa
