/- ActRest, walked. -/
import Derived.Test.YtcbmcengccealaaMade
namespace Go.Proofs.Ytcbmcengccealaa
set_option linter.unusedVariables false
open Go.RowKit

theorem newE_of (M : List OpV) (h : OkRow M) : newE M = 0 := by
  unfold newE
  have h1 := h.1
  rw [if_neg (by omega), if_pos]
  unfold okAll
  rw [List.all_eq_true]
  exact h.2
/-- Two rows of the program, apart from each other. -/
structure Pair (B : Nat) (w : World) (g b g' b' : Nat) (L L' : List OpV) : Prop where
  a : Std B w g b L
  r : Std B w g' b' L'
  d1 : ¬ two g b g'
  d2 : ¬ two g b b'
  d3 : ¬ two g' b' g
  d4 : ¬ two g' b' b
section
variable {B g b g' b' : Nat} {L L' M : List OpV} {w0 w w' : World}
theorem Pair.alloc (h : Pair B w g b g' b' L L') (o : Obj) : Pair B (w.alloc o) g b g' b' L L' := ⟨h.a.alloc o, h.r.alloc o, h.d1, h.d2, h.d3, h.d4⟩
theorem Pair.below (h : Pair B w g b g' b' L L') (k : Below w.heap.size w w') : Pair B w' g b g' b' L L' := ⟨h.a.below k, h.r.below k, h.d1, h.d2, h.d3, h.d4⟩
theorem Pair.left (h : Pair B w g b g' b' L L') (s : Std B w' g b M) (k : Keeps (two g b) w w') : Pair B w' g b g' b' M L' := ⟨s, h.r.keeps k h.d1 h.d2, h.d1, h.d2, h.d3, h.d4⟩
theorem Pair.right (h : Pair B w g b g' b' L L') (s : Std B w' g' b' M) (k : Keeps (two g' b') w w') : Pair B w' g b g' b' L M := ⟨h.a.keeps k h.d3 h.d4, s, h.d1, h.d2, h.d3, h.d4⟩
end
theorem Blk.on' {w w' : World} {g : Nat} {t : TypeId} {cs : Array Value} (h : Blk w g t cs) (hb : Below w.heap.size w w') : Blk w' g t cs := h.below hb h.lt
theorem ranE_cases (L : List OpV) : ranE L = 0 ∨ ranE L = 250 := by
  cases L with
  | nil => exact .inr rfl
  | cons x L =>
    by_cases hk : x.k = 1
    · exact .inl (if_pos hk)
    · exact .inr (if_neg hk)
theorem FreshOps.nil {w : World} {B c b : Nat} {A : Option Addr} {L : List OpV} (h : FreshOps w B A c b L) : A = none → c = 0 := fun e => (h.2.2.1 e).2
theorem Pair.mk' {B : Nat} {w w' : World} {g b g' b' : Nat} {P : List OpV} (h : Std B w g b P) (hb : Below w.heap.size w w') (h' : Std B w' g' b' P) (hg : w.heap.size ≤ g') (hgb : w.heap.size ≤ b') : Pair B w' g b g' b' P P := by
  have h1 := h.gl
  have h2 := h.bl
  exact ⟨h.below hb, h', by rintro (h | h) <;> omega, by rintro (h | h) <;> omega, by rintro (h | h) <;> omega, by rintro (h | h) <;> omega⟩
theorem cell3a {w : World} {g : Nat} {t : TypeId} {u v z : Value} (h : Blk w g t #[u, v, z]) : w.cell? ⟨g, 0, none⟩ = some u := (h.cell 0).trans rfl
theorem cell3b {w : World} {g : Nat} {t : TypeId} {u v z : Value} (h : Blk w g t #[u, v, z]) : w.cell? ⟨g, 1, none⟩ = some v := (h.cell 1).trans rfl
theorem cell3c {w : World} {g : Nat} {t : TypeId} {u v z : Value} (h : Blk w g t #[u, v, z]) : w.cell? ⟨g, 2, none⟩ = some z := (h.cell 2).trans rfl
theorem bring200 (i : Int) (w : World) : Calls Try.prog 27 #[.int .i64 i, .int .i64 200] w fun e w' => e = .returned (.int .i64 (bringN i 200 : Nat)) ∧ w = w' := bring_n i 200 200 w rfl (by omega) (by omega)
set_option maxRecDepth 20000 in
set_option maxHeartbeats 800000 in
theorem rest_c (A : Option Addr) (n c : Nat) (L : List OpV) (z : Int) (w : World) (hl : n ≤ 140737488355328) (h : n = L.length ∧ OpsR w A L) :
    Calls Try.prog 6 #[.slice A n c, .int .i64 z] w fun e w' => e = .returned (.bool true) ∧ Below w.heap.size w w' := by
  have HO := Lib.hid h
  clear h
  have hz := bringN_lt z 200 (by omega)
  go_enter Try.func6, Try.ntmps6
  go_wp2_with (first
    | (go_at_call 11; with_reducible refine (new_s hF.reads hFA hE0 hB1 hB1.size).mono ?_; rintro e w2 ⟨g, b, rfl, hs2, hB2, -, -, -⟩)
    | (go_at_call 26; refine (made_c A n c L _ hl HO.out).mono ?_; rintro e w1 ⟨Ai, ci, bi, M, rfl, hM, hF, hB1⟩; have hE0 := newE_of M hM; have hFA : Ai = none → ci = 0 := (fun h => (hF.2.2.1 h).2)))
  clear hF hB1
  go_loopw [7] (fun x wr => ∃ (i : Nat) (P : List OpV), i ≤ 200 ∧ x = .int .i64 i ∧ Std w.heap.size wr g b P ∧ Below w.heap.size w wr) (fun x _ => 200 - (intOf x).toNat)
  case atStart => exact ⟨0, M, by omega, rfl, hs2, hB2⟩
  case round =>
    clear hs2 hB2
    obtain ⟨i, P, hi, rfl, hs, hB⟩ := hrel
    by_cases hlt : (i : Int) < bringN z 200
    · rcases ranE_cases P with hv | hv
      · have HV := Lib.hid hv
        clear hv
        go_wp2_with (first
          | (go_at_call 27; with_reducible refine (bring200 _ _).mono ?_; rintro e w3 ⟨rfl, rfl⟩)
          | (go_at_call 14; with_reducible refine (ran_s hs hB HV.out rfl).mono ?_; rintro e w3 ⟨rfl, hs3, hB3, -⟩))
        go_roundw
        case rel => exact ⟨i + 1, _, by omega, rfl, hs3, hB3⟩
        case measure => simp [intOf]; omega
      · have HV := Lib.hid hv
        clear hv
        go_wp2_with (first
          | (go_at_call 27; with_reducible refine (bring200 _ _).mono ?_; rintro e w3 ⟨rfl, rfl⟩)
          | (go_at_call 16; with_reducible refine (did_s hs3 hB3 rfl rfl).mono ?_; rintro e w4 ⟨rfl, hs4, hB4, -⟩)
          | (go_at_call 14; with_reducible refine (ran_s hs hB HV.out rfl).mono ?_; rintro e w3 ⟨rfl, hs3, hB3, -⟩))
        go_roundw
        case rel => exact ⟨i + 1, _, by omega, rfl, hs4, hB4⟩
        case measure => simp [intOf]; omega
    · obtain ⟨t, ht⟩ : ∃ t, leftOf P = t := ⟨_, rfl⟩
      obtain ⟨d, hd⟩ : ∃ d, P.isEmpty = d := ⟨_, rfl⟩
      have HT := Lib.hid ht
      have HD := Lib.hid hd
      have hEP := newE_of P hs.ok
      clear ht hd
      go_wp2_with (first
        | (go_at_call 27; with_reducible refine (bring200 _ _).mono ?_; rintro e w3 ⟨rfl, rfl⟩)
        | (go_at_call 21; with_reducible refine (done_s hp7.a hB7 HD.out).mono ?_; rintro e w8 ⟨rfl, hs8, hB8, hK8⟩; have hp8 := hp7.left hs8 hK8)
        | (go_at_call 21; with_reducible refine (done_s hp6.r hB6 HD.out).mono ?_; rintro e w7 ⟨rfl, hs7, hB7, hK7⟩; have hp7 := hp6.right hs7 hK7)
        | (go_at_call 23; with_reducible refine (left_s hp5.a hB5 HT.out).mono ?_; rintro e w6 ⟨rfl, hs6, hB6, hK6⟩; have hp6 := hp5.left hs6 hK6)
        | (go_at_call 23; with_reducible refine (left_s hp4.r hB4 HT.out).mono ?_; rintro e w5 ⟨rfl, hs5, hB5, hK5⟩; have hp5 := hp4.right hs5 hK5)
        | (go_at_call 11; with_reducible refine (new_s hF3.reads hFA3 hEP hB3 hB3.size).mono ?_; rintro e w4 ⟨g', b', rfl, hs4, hB4, hb4, hg4, hgb4⟩; have hp4 := Pair.mk' hs3 hb4 hs4 hg4 hgb4)
        | (go_at_call 20; with_reducible refine (rest_s hs hB).mono ?_; rintro e w3 ⟨A3, c3, b3, rfl, hF3, hs3, hB3, -⟩; have hFA3 := hF3.nil))
      clear hF3 hs hB hs3 hB3 hp4 hB4 hp5 hB5 hp6 hB6 hp7 hB7
      go_loopw [10] (fun y wr => ∃ (j : Nat) (P : List OpV), j ≤ 300 ∧ y = .int .i64 j ∧ Pair w.heap.size wr g b g' b' P P ∧ Below w.heap.size w wr) (fun y _ => 300 - (intOf y).toNat)
      case atStart => exact ⟨0, P, by omega, rfl, hp8, hB8⟩
      case round =>
        clear hp8 hB8 HT HD hEP hs4 hb4 hs5 hs6 hs7 hs8
        obtain ⟨j, P, hj, rfl, hp, hB⟩ := hrel
        obtain ⟨d, hd⟩ : ∃ d, P.isEmpty = d := ⟨_, rfl⟩
        have HD := Lib.hid hd
        clear hd
        by_cases hlt3 : (j : Int) < 300
        · cases d with
          | true =>
            go_wp2_with (first
            | (go_at_call 10; with_reducible refine (lift (a := w) (works_c _) hB8).mono ?_; rintro e w9 ⟨rfl, hB9⟩)
            | (go_at_call 21; with_reducible refine (done_s hp7.a hB7 HD.out).mono ?_; rintro e w8 ⟨rfl, -, hB8, -⟩)
            | (go_at_call 21; with_reducible refine (done_s hp3.r hB3 HD.out).mono ?_; rintro e w7 ⟨rfl, hs7, hB7, hK7⟩; have hp7 := hp3.right hs7 hK7)
            | (go_at_call 21; with_reducible refine (done_s hp.a hB HD.out).mono ?_; rintro e w3 ⟨rfl, hs3, hB3, hK3⟩; have hp3 := hp.left hs3 hK3))
            go_ret
            exact ⟨rfl, hB9⟩
          | false =>
            obtain ⟨v, hv⟩ : ∃ v, ranE P = v := ⟨_, rfl⟩
            obtain ⟨Q, hQ⟩ : ∃ Q, ranL P = Q := ⟨_, rfl⟩
            obtain ⟨v2, hv2⟩ : ∃ v, didE Q = v := ⟨_, rfl⟩
            obtain ⟨Q2, hQ2⟩ : ∃ R, didL Q = R := ⟨_, rfl⟩
            obtain ⟨x, hx⟩ : ∃ x, headOf P = x := ⟨_, rfl⟩
            have HE := Lib.hid hv
            have HQ := Lib.hid hQ
            have HE2 := Lib.hid hv2
            have HQ2 := Lib.hid hQ2
            have HX := Lib.hid hx
            have HI : Hid ((!P.isEmpty) = true) := by show (!P.isEmpty) = true; rw [HD.out]; rfl
            clear hv hQ hv2 hQ2 hx
            go_wp2_with (first
              | (go_at_call 16; with_reducible refine (did_s hp8.r hB8 HE2.out HQ2.out).mono ?_; rintro e w9 ⟨rfl, hs9, hB9, hK9⟩; have hp9 := hp8.right hs9 hK9)
              | (go_at_call 16; with_reducible refine (did_s hp7.a hB7 HE2.out HQ2.out).mono ?_; rintro e w8 ⟨rfl, hs8, hB8, hK8⟩; have hp8 := hp7.left hs8 hK8)
              | (go_at_call 14; with_reducible refine (ran_s hp6.r hB6 HE.out HQ.out).mono ?_; rintro e w7 ⟨rfl, hs7, hB7, hK7⟩; have hp7 := hp6.right hs7 hK7)
              | (go_at_call 14; with_reducible refine (ran_s (hp5.alloc _).a (hB5.alloc hB5.size _) HE.out HQ.out).mono ?_; rintro e w6 ⟨rfl, hs6, hB6, hK6⟩; have hp6 := (hp5.alloc _).left hs6 hK6)
              | (go_at_call 18; with_reducible refine (next_v (hp4.alloc _).r.row HX.out HI.out).mono ?_; rintro e w5 ⟨rfl, hb5⟩; have hp5 := (hp4.alloc _).below hb5; have hB5 := below_lift (hB4.alloc hB4.size _) hb5 (hB4.alloc hB4.size _).size; have ha := Blk.on' (Blk.new w4 23 #[.int .i64 x.k, .int .i64 x.n, .string x.s]) hb5; have hal := ha.lt; have a0 := cell3a ha; have a1 := cell3b ha; have a2 := cell3c ha)
              | (go_at_call 18; with_reducible refine (next_v hp3.a.row HX.out HI.out).mono ?_; rintro e w4 ⟨rfl, hb4⟩; have hp4 := hp3.below hb4; have hB4 := below_lift hB3 hb4 hB3.size)
              | (go_at_call 21; with_reducible refine (done_s hp.a hB HD.out).mono ?_; rintro e w3 ⟨rfl, hs3, hB3, hK3⟩; have hp3 := hp.left hs3 hK3))
            go_roundw
            case rel => exact ⟨j + 1, Q2, by omega, rfl, hp9, hB9⟩
            case measure => simp [intOf]; omega
        · go_wp2_with (first
            | (go_at_call 10; with_reducible refine (lift (a := w) (works_c _) hB8).mono ?_; rintro e w9 ⟨rfl, hB9⟩)
            | (go_at_call 21; with_reducible refine (done_s hp7.a hB7 HD.out).mono ?_; rintro e w8 ⟨rfl, -, hB8, -⟩)
            | (go_at_call 21; with_reducible refine (done_s hp.r hB HD.out).mono ?_; rintro e w7 ⟨rfl, hs7, hB7, hK7⟩; have hp7 := hp.right hs7 hK7))
          go_ret
          exact ⟨rfl, hB9⟩
end Go.Proofs.Ytcbmcengccealaa
