/- StackOnce, walked. -/
import Derived.Test.YtmgcjdedgfiboaaOnceN
import Derived.Test.YtmgcjdedgfiboaaFour
import Derived.Test.YtmgcjdedgfiboaaDosA
import Derived.Test.YtmgcjdedgfiboaaStkW
import Derived.Deep.CutBlock
import Derived.Deep.DeepCutAuto
namespace Go.Proofs.Ytmgcjdedgfiboaa
set_option linter.unusedVariables false
open Go.RowKit

theorem once_new {w2 w3 w' : World} {s g1 g2 : Nat} {D : Nat → Nat → Int} {TA : Option Addr} {tc : Nat} (hS : StA w2.heap.size w3 s TA 4 tc D (.slice none 0 0) []) (hB : Below w2.heap.size w2 w3) (hX : Below w3.heap.size w3 w')
    (h1 : Blk w' g1 51 (rowC fun _ => .slice none 0 0)) (h2 : Blk w' g2 52 (lckC fun _ => false)) (b1 : w2.heap.size ≤ g1) (b2 : w2.heap.size ≤ g2) : OnceS w2.heap.size w2 w' s g1 g2 D [] (fun _ => .slice none 0 0) 0 :=
  ⟨⟨_, _, _, hS.below hX⟩, ⟨h1, h2, fun k hk => OwnI.nil, fun j k _ _ _ b hb => by simp [Value.ownBlock] at hb, b1, b2⟩, OInv.nil, Nat.le_refl _, below_lift hB hX hB.size⟩
set_option maxRecDepth 20000 in
set_option maxHeartbeats 1600000 in
theorem once_c (A : Option Addr) (n c : Nat) (D : Nat → Nat → Int) (A1 : Option Addr) (n1 c1 : Nat) (D1 : Nat → Nat → Int) (w : World) (hn : n ≤ 1152921504606846976) (h : TasksAt w A n D) (hn1 : n1 ≤ 1152921504606846976) (h1 : DosAt w A1 n1 D1) :
    Calls Try.prog 5 #[.slice A n c, .slice A1 n1 c1] w fun e w' => e = .returned (.bool true) ∧ Below w.heap.size w w' := by
  have HF := Lib.hid (fun W (hb : Below w.heap.size w W) => four_c A n c D W hn (h.below hb))
  have HR := Lib.hid h1
  clear h h1
  go_enter Try.func5, Try.ntmps5
  go_wp2_with (first
    | (go_at_call 8; with_reducible refine (snew_ok _ 4 4 D' _ (by omega) hT2).mono ?_; rintro e w3 ⟨s, TA, tc, rfl, hS, hB3⟩)
    | (go_at_call 7; with_reducible refine (HF.out _ hB1).mono ?_; rintro e w2 ⟨g, D', rfl, hT2, hB2⟩)
    | (go_at_call 18; with_reducible refine (works_c w).mono ?_; rintro e w1 ⟨rfl, hB1⟩))
  have e4 : (w3.alloc (.cells #[.slice none 0 0, .slice none 0 0, .slice none 0 0, .slice none 0 0] 51)).heap.size = w3.heap.size + 1 := by simp
  have hX : Below w3.heap.size w3 ((w3.alloc (.cells #[.slice none 0 0, .slice none 0 0, .slice none 0 0, .slice none 0 0] 51)).alloc (.cells #[.bool false, .bool false, .bool false, .bool false, .bool false, .bool false, .bool false, .bool false] 52)) := ((Below.refl w3.heap.size w3).alloc (Nat.le_refl _) _).alloc (by rw [e4]; omega) _
  have hb1 : Blk ((w3.alloc (.cells #[.slice none 0 0, .slice none 0 0, .slice none 0 0, .slice none 0 0] 51)).alloc (.cells #[.bool false, .bool false, .bool false, .bool false, .bool false, .bool false, .bool false, .bool false] 52)) w3.heap.size 51 (rowC fun _ => .slice none 0 0) := (Blk.new w3 _ _).alloc _
  have hb2 : Blk ((w3.alloc (.cells #[.slice none 0 0, .slice none 0 0, .slice none 0 0, .slice none 0 0] 51)).alloc (.cells #[.bool false, .bool false, .bool false, .bool false, .bool false, .bool false, .bool false, .bool false] 52)) (w3.heap.size + 1) 52 (lckC fun _ => false) := e4 ▸ Blk.new (w3.alloc (.cells #[.slice none 0 0, .slice none 0 0, .slice none 0 0, .slice none 0 0] 51)) _ _
  have H0 := Lib.hid (once_new hS hB3 hX hb1 hb2 hB3.size (Nat.le_succ_of_le hB3.size))
  have HT := Lib.hid hT2
  have HB2 : Hid (Below w.heap.size w w2) := below_lift hB1 hB2 hB1.size
  have HRR : Hid (DosAt w2 A1 n1 D1) := HR.out.below HB2.out
  clear hX hb1 hb2 e4 hS hB3 hT2 hB1 hB2 HR HF
  generalize (w3.alloc (.cells #[.slice none 0 0, .slice none 0 0, .slice none 0 0, .slice none 0 0] 51)).alloc (.cells #[.bool false, .bool false, .bool false, .bool false, .bool false, .bool false, .bool false, .bool false] 52) = w5 at *
  generalize w3.heap.size + 1 = g2 at *
  generalize w3.heap.size = g1 at *
  go_loopw [9] (fun y wr => ∃ (i : Nat) (E : List Ent) (V : Nat → Value), i ≤ n1 ∧ i ≤ 150 ∧ y = .int .i64 i ∧ OnceS w2.heap.size w2 wr s g1 g2 D' E V i) (fun y _ => 150 - (intOf y).toNat)
  case atStart => exact ⟨0, [], _, by omega, by omega, rfl, H0.out⟩
  case round =>
    clear H0
    obtain ⟨i, E, V, hi, hi150, rfl, hC⟩ := hrel
    by_cases hlt : (i : Int) < (n1 : Nat) ∧ (i : Int) < 150
    · obtain ⟨hlt1, hlt2⟩ := hlt
      have hB := hC.b
      obtain ⟨b, off, rfl, hb, hx⟩ := HRR.out (by omega)
      obtain ⟨o0, o1, o2⟩ := hx i (by omega)
      have d0 := (hB.cell (p := ⟨b, off + i * 3, none⟩) hb).trans o0
      have d1 := (hB.cell (p := ⟨b, off + i * 3 + 1, none⟩) hb).trans o1
      have d2 := (hB.cell (p := ⟨b, off + i * 3 + 2, none⟩) hb).trans o2
      obtain ⟨p, hp⟩ : ∃ p, bringN (D1 i 1) 4 = p := ⟨_, rfl⟩
      have hp4 : p < 4 := hp ▸ bringN_lt (D1 i 1) 4 (by omega)
      have hBp : ∀ w, Calls Try.prog 9 #[.int .i64 (D1 i 1), .int .i64 4] w fun e w' => e = .returned (.int .i64 (p : Nat)) ∧ w' = w := fun w => (hp ▸ bring_n (D1 i 1) 4 4 w rfl (by omega) (by omega)).mono fun e w' ⟨k1, k2⟩ => ⟨k1, k2.symm⟩
      obtain ⟨r, hr⟩ : ∃ p, bringN (D1 i 2) 8 = p := ⟨_, rfl⟩
      have hr8 : r < 8 := hr ▸ bringN_lt (D1 i 2) 8 (by omega)
      have hBr : ∀ w, Calls Try.prog 9 #[.int .i64 (D1 i 2), .int .i64 8] w fun e w' => e = .returned (.int .i64 (r : Nat)) ∧ w' = w := fun w => (hr ▸ bring_n (D1 i 2) 8 8 w rfl (by omega) (by omega)).mono fun e w' ⟨k1, k2⟩ => ⟨k1, k2.symm⟩
      obtain ⟨q, hq⟩ : ∃ p, bringN (D1 i 0) 3 = p := ⟨_, rfl⟩
      have hq3 : q < 3 := hq ▸ bringN_lt (D1 i 0) 3 (by omega)
      have hBq : ∀ w, Calls Try.prog 9 #[.int .i64 (D1 i 0), .int .i64 3] w fun e w' => e = .returned (.int .i64 (q : Nat)) ∧ w = w' := fun w => hq ▸ bring_n (D1 i 0) 3 3 w rfl (by omega) (by omega)
      have hi1 : i + 1 ≤ n1 := by omega
      have hi2 : i + 1 ≤ 150 := by omega
      have HC := Lib.hid hC
      clear hx o0 o1 o2 hp hr hq hC hB
      obtain ⟨Q, hQ⟩ : ∃ P : Int, P = (q : Nat) := ⟨_, rfl⟩
      rw [← hQ] at hBq
      have HQ := Lib.hid hQ
      clear hQ
      have hp4I : (p : Int) < 4 := by omega
      have hr8I : (r : Int) < 8 := by omega
      go_wp2_with fail
      go_quiet ((first
        | (go_at_call 9; with_reducible exact Calls.quiet_of_same (hBp _))
        | (go_at_call 9; with_reducible exact Calls.quiet_of_same (hBr _))))
      go_upto_block 2 with (go_at_call 9; with_reducible refine (hBq _).mono ?_; rintro e w4 ⟨rfl, rfl⟩)
      have HT2 : Hid (OnceS w2.heap.size w2 (wr.drewN nq) s g1 g2 D' E V i) := HC.out.below (below_drewN (Below.refl _ _) _)
      generalize wr.drewN nq = wA at *
      clear HC d0 d1 d2 hBp hBr hBq
      go_cut [] (fun wx => ∃ E' V', OnceS w2.heap.size w2 wx s g1 g2 D' E' V' (i + 1))
      case first =>
        have HEL : Hid (E.length < 100000) := by have := HT2.out.len; show E.length < 100000; omega
        obtain ⟨m0, hm0⟩ : ∃ m0, (heldE E (p : Nat)).length = m0 := ⟨_, rfl⟩
        have HM := Lib.hid hm0
        have hmE : m0 ≤ 150 := by
          have h1 := heldE_len E (p : Nat)
          have h2 := HT2.out.len
          omega
        have HQQ := HQ.out
        rcases (by omega : q = 0 ∨ q = 1 ∨ q = 2) with rfl | rfl | rfl
        · obtain rfl : Q = 0 := HQQ
          clear hm0
          -- <A
          obtain ⟨u, hu⟩ : ∃ u, usesB D' 4 (p : Int) (r : Int) = u := ⟨_, rfl⟩
          obtain ⟨l, hl⟩ : ∃ l, lockedB E (r : Nat) = l := ⟨_, rfl⟩
          have hUs := uses_a (some ⟨g, 0, none⟩) 4 4 D' (p : Int) (r : Int) wA (by omega) (HT.out.below HT2.out.b)
          rw [hu] at hUs
          have HU := Lib.hid hUs
          have HLL := Lib.hid hl
          have HUU := Lib.hid hu
          clear hUs hu hl
          cases u with
          | false =>
            have HLF : Hid (lockE 4 D' E (p : Nat) (r : Nat) ≠ 0 ∧ lockC 4 D' E (p : Nat) (r : Nat) = E) := lock_no ⟨by omega, by omega⟩ (.inl HUU.out)
            go_wp2_with (first
              | (go_at_call 10; with_reducible refine (H5.out.lock_f HEL.out HLF.out).mono ?_; rintro e w6 ⟨z6, rfl, hz6, hS6⟩; have HS6 := Lib.hid hS6; clear hS6)
              | (go_at_call 22; with_reducible refine HU.out.mono ?_; rintro e w5 ⟨rfl, hb5⟩; have h5 := HT2.out.below hb5; obtain ⟨Ap, cp, -, c1, -⟩ := h5.c1 hp4 HM.out; have c2 := h5.c2 hr8 HLL.out; have H5 := Lib.hid h5; clear h5 hb5))
            go_meet
            exact ⟨E, V, HS6.out⟩
          | true =>
            cases l with
            | true =>
              have HLF : Hid (lockE 4 D' E (p : Nat) (r : Nat) ≠ 0 ∧ lockC 4 D' E (p : Nat) (r : Nat) = E) := lock_no ⟨by omega, by omega⟩ (.inr (.inl HLL.out))
              go_wp2_with (first
                | (go_at_call 10; with_reducible refine (H5.out.lock_f HEL.out HLF.out).mono ?_; rintro e w6 ⟨z6, rfl, hz6, hS6⟩; have HS6 := Lib.hid hS6; clear hS6)
                | (go_at_call 22; with_reducible refine HU.out.mono ?_; rintro e w5 ⟨rfl, hb5⟩; have h5 := HT2.out.below hb5; obtain ⟨Ap, cp, -, c1, -⟩ := h5.c1 hp4 HM.out; have c2 := h5.c2 hr8 HLL.out; have H5 := Lib.hid h5; clear h5 hb5))
              go_meet
              exact ⟨E, V, HS6.out⟩
            | false =>
              by_cases hm4 : 4 ≤ m0
              · have HLF : Hid (lockE 4 D' E (p : Nat) (r : Nat) ≠ 0 ∧ lockC 4 D' E (p : Nat) (r : Nat) = E) := lock_no ⟨by omega, by omega⟩ (.inr (.inr (by rw [HM.out]; exact hm4)))
                have hm5 : ¬ (m0 : Int) < 4 := by omega
                go_wp2_with (first
                  | (go_at_call 10; with_reducible refine (H5.out.lock_f HEL.out HLF.out).mono ?_; rintro e w6 ⟨z6, rfl, hz6, hS6⟩; have HS6 := Lib.hid hS6; clear hS6)
                  | (go_at_call 22; with_reducible refine HU.out.mono ?_; rintro e w5 ⟨rfl, hb5⟩; have h5 := HT2.out.below hb5; obtain ⟨Ap, cp, -, c1, -⟩ := h5.c1 hp4 HM.out; have c2 := h5.c2 hr8 HLL.out; have H5 := Lib.hid h5; clear h5 hb5))
                go_meet
                exact ⟨E, V, HS6.out⟩
              · have hm5 : (m0 : Int) < 4 := by omega
                have hne := HT2.out.r.ne
                have hne1 : ¬ g1 = g2 := hne
                have hne2 : ¬ g2 = g1 := fun e => hne1 e.symm
                have HLY : Hid (lockE 4 D' E (p : Nat) (r : Nat) = 0 ∧ lockC 4 D' E (p : Nat) (r : Nat) = E ++ [((p : Int), (r : Int))]) := lock_yes ⟨by omega, by omega⟩ HUU.out HLL.out (by rw [HM.out]; omega)
                have HL1 : Hid ((heldE E (p : Nat)).length + 1 ≤ 10000000000000) := by show (heldE E (p : Nat)).length + 1 ≤ 10000000000000; rw [HM.out]; omega
                clear hne
                go_wp2_with (first
                  | (at_builtin; refine wpList_append_int (w0 := w2) (B := w2.heap.size) (L := heldE E (p : Nat)) rfl (.tmp 129) (.tmp 131) rfl rfl HO7.out HB7.out HZ7.out (r : Int) (sl1 HW7.out) HL1.out ?_; intro v8 w8 hO8 hg8 hv8 hB8; obtain ⟨f8, ⟨u8, k8⟩, hF8⟩ := H5.out.lock2 hp4 hr8 HLL.out HK6.out hO8 (by rw [HVV.out]; exact hg8) (by rw [HVV.out]; exact hv8); obtain ⟨A8, c8, e8, -⟩ := hO8.form; rw [List.length_append, List.length_singleton, HM.out] at e8; have HF8 := Lib.hid hF8; clear hO8 hg8 hv8 hB8 hF8; subst e8)
                  | (go_at_call 10; with_reducible refine (lock_k H5.out.st H5.out.b HEL.out HLY.out.1 HLY.out.2).mono ?_; rintro e w6 ⟨rfl, hK6⟩; obtain ⟨f6, ⟨u6, k6⟩, k7, hO7, hB7, hZ7⟩ := H5.out.lock1 (p := p) (r := r) hp4 hr8 hK6; rw [HVV.out] at k7 hO7; have HK6 := Lib.hid hK6; have HO7 := Lib.hid hO7; have HB7 := Lib.hid hB7; have HZ7 := Lib.hid hZ7; have HW7 := Lib.hid (size_set w6 ⟨g2, r, none⟩ (.bool true)); clear hK6 hO7 hB7 hZ7)
                  | (go_at_call 22; with_reducible refine HU.out.mono ?_; rintro e w5 ⟨rfl, hb5⟩; have h5 := HT2.out.below hb5; obtain ⟨Ap, cp, hV, c1, -⟩ := h5.c1 hp4 HM.out; have c2 := h5.c2 hr8 HLL.out; have H5 := Lib.hid h5; have HVV := Lib.hid hV; clear h5 hb5 hV))
                go_meet
                exact ⟨_, _, HF8.out⟩
          -- A>
        · obtain rfl : Q = 1 := HQQ
          -- <B
          obtain ⟨Ap, cp, hV, c1, hcp⟩ := HT2.out.c1 hp4 hm0
          have HVV := Lib.hid hV
          have hHM := hm0
          clear hm0 hV
          cases m0 with
          | zero =>
            have HUF := Lib.hid (HT2.out.unlock_f hp4 (List.eq_nil_of_length_eq_zero hHM))
            clear hHM
            go_wp2_with (go_at_call 11; with_reducible refine HUF.out.mono ?_; rintro e w6 ⟨x6, rfl, hS6⟩; have HS6 := Lib.hid hS6; clear hS6)
            go_meet
            exact ⟨E, V, HS6.out⟩
          | succ k =>
            have HUT := Lib.hid (HT2.out.unlock_t hp4 hHM HVV.out)
            have hkc : k ≤ cp := by omega
            have hsl := fun W => run_slice_0i W Ap (k + 1) cp k hkc
            have hne1 : ¬ g1 = g2 := HT2.out.r.ne
            have hne2 : ¬ g2 = g1 := fun e => hne1 e.symm
            have hkI : (0 : Int) < ((k + 1 : Nat) : Int) := by omega
            clear hHM
            go_wp2_with (go_at_call 11; with_reducible refine HUT.out.mono ?_; rintro e w6 ⟨x, rfl, hx8, hU⟩; have c16 := hU.c1; obtain ⟨b6, off6, rfl, c36⟩ := hU.c3; have f26 := hU.f2; obtain ⟨u6, k26⟩ := hU.k2; have k16 := hU.k1; have f16 := hU.f1; have HF6 := Lib.hid hU.fin; clear hU)
            go_meet
            exact HF6.out
          -- B>
        · obtain rfl : Q = 2 := HQQ
          -- <C
          obtain ⟨L, hL⟩ : ∃ L, (heldE E (p : Nat)).reverse = L := ⟨_, rfl⟩
          have HD := Lib.hid (HT2.out.drop_t hp4 hm0 hL)
          have HLr := Lib.hid hL
          have hLl : L.length = m0 := by rw [← hL, List.length_reverse, hm0]
          have HLL := Lib.hid hLl
          clear hm0 hL hLl
          go_wp2_with (go_at_call 12; with_reducible refine HD.out.mono ?_; rintro e w6 ⟨Ao, co, rfl, hO6, hR6, hK6⟩; have hr6 := HT2.out.r.keep hK6.k; have c16 := (hr6.rows.cell p).trans (rowC_get V hp4); obtain ⟨Ap, cp, hV, -, -⟩ := HT2.out.c1 hp4 HM.out; rw [hV] at c16; have HO6 := Lib.hid hO6; have HR6 := Lib.hid hr6; have HK6 := Lib.hid hK6; have HVV := Lib.hid hV; clear hO6 hR6 hr6 hK6 hV)
          have HD0 : Hid (DropS w2.heap.size w6 w6 g1 g2 V E L 0) := DropS.zero HR6.out
          clear c16
          go_loopw [18] (fun y wr => ∃ j : Nat, j ≤ m0 ∧ y = .int .i64 j ∧ DropS w2.heap.size w6 wr g1 g2 V E L j) (fun y _ => m0 - (intOf y).toNat)
          case atStart => exact ⟨0, by omega, rfl, HD0.out⟩
          case round =>
            clear HD0
            obtain ⟨j, hj, rfl, hD⟩ := hrel
            by_cases hlt : (j : Int) < (m0 : Nat)
            · obtain ⟨i0, hi0⟩ : ∃ i0, m0 - 1 - j = i0 := ⟨_, rfl⟩
              have hw1 : (m0 : Int) - 1 - j = (i0 : Int) := by omega
              have hi0m : (i0 : Int) < (m0 : Nat) := by omega
              have hw0 : wrap64 ((m0 : Int) - 1) = (m0 : Int) - 1 := IntWalk.wrap64_in _ (by omega)
              have hw2 : wrap64 ((m0 : Int) - 1 - j) = (i0 : Int) := by rw [IntWalk.wrap64_in _ (by omega)]; omega
              obtain ⟨xz, hx⟩ : ∃ x, L[j]? = some x := ⟨_, List.getElem?_eq_getElem (by rw [HLL.out]; omega)⟩
              have hxr := held_r (T := (p : Nat)) HT2.out.inv (r := xz) (by have := List.mem_of_getElem? hx; rw [← HLr.out] at this; simpa using this)
              obtain ⟨x, rfl⟩ : ∃ x : Nat, xz = (x : Int) := ⟨xz.toNat, by omega⟩
              have hx8 : x < 8 := by omega
              have hx8I : (x : Int) < 8 := by omega
              have hy : (heldE E (p : Nat))[i0]? = some (x : Int) := by
                have h1 := hx
                rw [← HLr.out, List.getElem?_reverse (by rw [HM.out]; omega), HM.out, hi0] at h1
                exact h1
              have hOw : OwnI wr w.heap.size (.slice Ao m0 co) L := (HO6.out.mono (by have h1 := HB2.out.size; have h2 := HT2.out.b.size; omega)).keep fun b hb => by
                obtain ⟨_, h2, cur, hc⟩ := HO6.out.lt b hb
                exact hD.k.block b h2 (Blk.ne_ hc HR6.out.lck (by decide))
              obtain ⟨A', c', e9, -, -, hR9, -⟩ := hOw.form
              injection e9 with e1 e2 e3
              subst e1
              have hOp := hD.r.own p hp4
              rw [HVV.out] at hOp
              obtain ⟨A', c', e9, -, -, hRp, -⟩ := hOp.form
              injection e9 with e1 e4 e5
              subst e1
              obtain ⟨ba, offa, rfl, _, hxa⟩ := hR9 (by rintro rfl; simp at hx)
              obtain ⟨bp, offp, rfl, _, hxp⟩ := hRp (by intro e; have e' : heldE E (p : Int) = [] := e; rw [e'] at hy; simp at hy)
              have ca := hxa j _ hx
              have cpp := hxp i0 _ hy
              have cr := (hD.r.rows.cell p).trans (rowC_get V hp4)
              rw [HVV.out] at cr
              have HX := Lib.hid hx
              have HDD := Lib.hid hD
              clear hx hy hxr hOw hR9 hOp hRp hxa hxp hD e2 e3 e4 e5 hi0
              go_wp2_with fail
              go_quiet (fail)
              have hD9 : DropS w2.heap.size w6 (wr.drewN nq) g1 g2 V E L j := ⟨HDD.out.k.drewN nq, HDD.out.r.below (below_drewN (Below.refl _ _) _)⟩
              have ca9 : (wr.drewN nq).cell? ⟨ba, offa + j, none⟩ = some (.int .i64 (x : Nat)) := ca
              have f9 : (wr.drewN nq).frozen? ⟨g2, x, none⟩ = false := hD9.r.lck.frozen x
              have k9 := (hD9.r.lck.cell x).trans (lckC_get _ hx8)
              have HN := Lib.hid (hD9.next HX.out hx8)
              clear ca cpp cr hD9 HDD
              generalize wr.drewN nq = wB at *
              go_wp2_with fail
              go_roundw
              case rel => exact ⟨j + 1, by omega, rfl, HN.out⟩
              case measure => simp [intOf]; omega
            · obtain rfl : m0 = j := by omega
              have hD9 : DropS w2.heap.size w6 wr g1 g2 V E (heldE E (p : Nat)).reverse (heldE E (p : Nat)).reverse.length := by
                rw [HLr.out, HLL.out]; exact hD
              obtain ⟨f9, ⟨u9, k9⟩, hF⟩ := HT2.out.dropped hp4 HK6.out hD9
              have HF := Lib.hid hF
              clear hD hD9 hF
              go_wp2_with fail
              go_meet
              exact ⟨_, _, HF.out⟩
          -- C>
      case rest =>
        obtain ⟨E', V', hC3⟩ := hcut
        clear HT2
        have HC3 := Lib.hid hC3
        have hLE : E'.length ≤ 151 := by have := hC3.len; omega
        have HSum : Hid (sumH E' 4 = E'.length) := sumH_4 hC3.inv.t
        clear hC3
        obtain ⟨wB, rfl⟩ : ∃ x : World, x = wc := ⟨_, rfl⟩
        go_wp2_with fail
        -- <D
        go_loopw [19, 20] (fun v y wx => ∃ k : Nat, k ≤ 4 ∧ y = .int .i64 k ∧ v = .int .i64 (sumH E' k : Nat) ∧ Below wB.heap.size wB wx) (fun _ y _ => 4 - (intOf y).toNat)
        case atStart => exact ⟨0, by omega, rfl, rfl, Below.refl _ _⟩
        case round =>
          obtain ⟨k, hk, rfl, rfl, hBk⟩ := hrel
          have hCk := HC3.out.below hBk
          by_cases hlt4 : (k : Int) < 4
          · have hk4 : k < 4 := by omega
            obtain ⟨m0, hm0⟩ : ∃ m0, (heldE E' (k : Nat)).length = m0 := ⟨_, rfl⟩
            obtain ⟨M, hM⟩ : ∃ M, heldE E' (k : Nat) = M := ⟨_, rfl⟩
            have hMl : M.length = m0 := by rw [← hM]; exact hm0
            obtain ⟨n0, hn0⟩ : ∃ n0, sumH E' k = n0 := ⟨_, rfl⟩
            have hsum : Hid (sumH E' (k + 1) = n0 + m0) := by show sumH E' (k + 1) = n0 + m0; rw [← hn0, ← hm0]; rfl
            have hn04 : n0 + m0 ≤ 1000 := by
              have h1 := heldE_len E' (k : Nat)
              have h2 : sumH E' k ≤ k * E'.length := sumH_le E' k
              have h3 : k * E'.length ≤ 4 * 151 := Nat.mul_le_mul (by omega) hLE
              omega
            rw [hn0]
            have hCd : OnceS w2.heap.size w2 wr.drew s g1 g2 D' E' V' (i + 1) := hCk.below (Below.refl _ _).drew
            obtain ⟨Ak, ck, hV, c1, hck⟩ := hCd.c1 hk4 hm0
            have HH := Lib.hid (held_x (t := (k : Int)) hCd.st hCd.b hM hMl)
            have HEQ : Hid (∀ A6 c6 W, IntsR W A6 M → Below wr.drew.heap.size wr.drew W → Calls Try.prog 23 #[.slice A6 m0 c6, .slice Ak m0 ck] W fun e w' => e = .returned (.bool true) ∧ Below W.heap.size W w') := fun A6 c6 W hR hb => by
              have ho := hCd.r.own k hk4
              rw [hV] at ho
              obtain ⟨A', c', e9, -, -, hR9, -⟩ := ho.form
              injection e9 with e1 e4 e5
              subst e1
              have hR9' : IntsR wr.drew Ak M := hM ▸ hR9
              exact (eqints_c A6 m0 c6 M Ak m0 ck M W ⟨hMl.symm, hR⟩ ⟨hMl.symm, hR9'.below hb⟩ (by omega)).mono fun e w' ⟨h1, h2⟩ => ⟨by rw [h1]; simp, h2⟩
            have HCD := Lib.hid hCd
            have HBD : Hid (Below wB.heap.size wB wr.drew) := hBk.drew
            have HKI : Hid (g1 < wr.drew.heap.size) := hCd.r.rows.lt
            clear hCk hCd hm0 hM hMl hn0 hV hBk
            go_wp2_with fail
            go_region_held3 (fun w' => w'.cell? ⟨g1, k, none⟩ = some (.slice Ak m0 ck)) (go_keep)
              (first
                | (go_at_call 23; with_reducible refine (HEQ.out _ _ _ HR6.out HB6.out).mono ?_; rintro e w7 ⟨rfl, hb7⟩; have c3 := (hb7.cell (p := ⟨g1, k, none⟩) (Nat.lt_of_lt_of_le HKI.out HB6.out.size)).trans c2; clear c2; have HB7 := Lib.hid (HB6.out.trans (hb7.mono HB6.out.size)); clear hb7)
                | (go_at_call 13; with_reducible refine HH.out.mono ?_; rintro e w6 ⟨A6, c6, rfl, -, hR6, -, -, -, -, hb6⟩; have c2 := (hb6.cell (p := ⟨g1, k, none⟩) HKI.out).trans c1; clear c1; have HR6 := Lib.hid hR6; have HB6 := Lib.hid hb6; clear hR6 hb6))
            have HB9 : Hid (Below wB.heap.size wB w7) := below_lift HBD.out HB7.out HBD.out.size
            go_wp2_with fail
            go_roundw
            case rel => exact ⟨k + 1, by omega, rfl, by rw [hsum.out]; simp, HB9.out⟩
            case measure => simp [intOf]; omega
          · obtain rfl : 4 = k := by omega
            have HCk := Lib.hid hCk
            have hLen : Calls Try.prog 24 #[.pointer (some ⟨s, 0, none⟩)] wr fun e w' => e = .returned (.int .i64 (E'.length : Nat)) ∧ wr = w' := by
              obtain ⟨_, _, _, h9⟩ := hCk.st
              exact len_c h9
            rw [HSum.out]
            have HLen := Lib.hid hLen
            clear hCk hLen
            go_wp2_with (go_at_call 24; with_reducible refine HLen.out.mono ?_; rintro e w8 ⟨rfl, rfl⟩)
            go_roundw
            case rel => exact ⟨i + 1, E', V', hi1, hi2, rfl, HCk.out⟩
            case measure => simp [intOf]; omega
        -- D>
    · have HB9 : Hid (Below w.heap.size w wr) := HB2.out.trans (hC.b.mono HB2.out.size)
      rcases (by omega : (n1 : Int) ≤ i ∨ (150 : Int) ≤ i) with hge | hge
      · go_wp2_with fail
        all_goals go_ret
        all_goals exact ⟨rfl, HB9.out⟩
      · go_wp2_with fail
        all_goals go_ret
        all_goals exact ⟨rfl, HB9.out⟩
end Go.Proofs.Ytmgcjdedgfiboaa
