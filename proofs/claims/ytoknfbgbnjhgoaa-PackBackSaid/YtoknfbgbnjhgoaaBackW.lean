/- PackBack, walked. -/
import Derived.Test.YtoknfbgbnjhgoaaCutW
import Derived.Deep.CutBlock
import Derived.Deep.RegionHeld3
namespace Go.Proofs.Ytoknfbgbnjhgoaa
set_option linter.unusedVariables false
open Go.RowKit

theorem int_info : (Try.prog.info? 3).map (fun i => (i.zero, i.size, i.bytes)) = some (some (.int .i64 0), 1, 8) := by kernel_rfl
def ics (R : List Int) : List Value := R.map fun z => .int .i64 z
theorem ics_one (L : List Int) : ∀ u ∈ ics L, u.oneCell' = true := by
  intro u hu
  simp only [ics, List.mem_map] at hu
  obtain ⟨b, _, rfl⟩ := hu
  rfl
def OwnI (w : World) (B : Nat) (v : Value) (L : List Int) : Prop := w.ownsRow B 3 1 v L.length (ics L)
theorem OwnI.below {w w' : World} {B : Nat} {v : Value} {L : List Int} (h : OwnI w B v L) (k : Below w.heap.size w w') : OwnI w' B v L := own_below h k
theorem OwnI.form {w : World} {B : Nat} {v : Value} {L : List Int} (h : OwnI w B v L) : ∃ A c, v = .slice A L.length c ∧ L.length ≤ c ∧ IntsAt w A L.length (fun i => L.getD i 0) := by
  obtain ⟨A, c, rfl, h1, h2, h3, h4⟩ := own_form h
  refine ⟨A, c, rfl, h1, fun hL => ?_⟩
  cases A with
  | none => have := (h3 rfl).1; omega
  | some a =>
    obtain ⟨g, cur, rfl, hg, hb, hs, ht⟩ := h4 a rfl
    refine ⟨g, 0, rfl, hb.lt, fun i hi => ?_⟩
    rw [hb.cell, Nat.zero_add]
    refine take_at ht (u := .int .i64 (L.getD i 0)) ?_
    simp only [ics, List.getElem?_map]
    rw [List.getElem?_eq_getElem hi, List.getD_eq_getElem?_getD, List.getElem?_eq_getElem hi]
    rfl
theorem wpList_append_int {ops : Array Oper} {rest : List Oper} {o : Oper} {a : Act} {Q : Exit → Act → World → Prop} {w0 w : World} {B : Nat} {v : Value} {L : List Int} (hgd : o.guard = none) (s x : Operand)
    (ho : o.op = .call { callee := .builtin .append, args := #[s, x], argTypes := #[23, 23] }) (hs : a.eval s = v) (hO : OwnI w B v L) (hB : Below B w0 w) (hBw : B ≤ w.heap.size) (z : Int)
    (hx : a.eval x = .slice (some ⟨w.heap.size, 0, none⟩) 1 1) (hl : L.length + 1 ≤ 1000)
    (h : ∀ v' w', OwnI w' B v' (L ++ [z]) → Below B w0 w' → wpList Try.prog ops Q rest (a.put o.dst v') w') : wpList Try.prog ops Q (o :: rest) a (w.alloc (.cells #[.int .i64 z] 3)) := by
  obtain ⟨i0, hi0, hz0, hz1, hz2⟩ := info_parts int_info
  have hsrc : SrcR (w.alloc (.cells #[.int .i64 z] 3)) 1 (some ⟨w.heap.size, 0, none⟩) 1 1 (ics [z]) := by
    refine ⟨rfl, .inr ⟨_, rfl, fun j u hj => ?_⟩⟩
    rw [add_at, (Blk.new w _ _).cell, Nat.zero_add, ← Array.getElem?_toList]
    exact hj
  refine wpList_append_src hgd s x _ ho B 3 i0 _ 1 8 Try.underlying23 hi0 hz0 hz1 hz2 rfl (by omega) v L.length (ics L) hs (hO.below ((Below.refl _ _).alloc (Nat.le_refl _) _)) _ _ _ (ics [z]) hx hsrc (ics_one _) (by simp only [maxLen]; omega) (by omega) (by simp; omega) ?_
  intro v' w' hown hg _
  refine h v' w' ?_ (below_grown (hB.alloc hBw _) hg (by simp; omega) (own_from hO))
  show w'.ownsRow B 3 1 v' (L ++ [z]).length (ics (L ++ [z]))
  rw [show ics (L ++ [z]) = ics L ++ ics [z] by simp [ics], List.length_append]
  exact hown
def encL (K : List Int) : List UInt8 := K.flatMap enc
theorem encL_cons (z : Int) (K : List Int) : encL (z :: K) = enc z ++ encL K := by simp [encL]
theorem encT_list (K : List Int) : ∀ k, k ≤ K.length → encT (fun i => K.getD i 0) k = encL (K.take k)
  | 0, _ => rfl
  | k + 1, h => by
    have ih := encT_list K k (by omega)
    rw [encT, ih, List.take_add_one, List.getElem?_eq_getElem (by omega), List.getD_eq_getElem?_getD, List.getElem?_eq_getElem (by omega)]
    simp only [encL, List.flatMap_append, Option.toList_some, List.flatMap_cons, List.flatMap_nil, List.append_nil, Option.getD_some]
theorem encL_length (K : List Int) : (encL K).length ≤ 9 * K.length := by
  induction K with
  | nil => simp [encL]
  | cons z K ih => rw [encL_cons, List.length_append, List.length_cons]; have := enc_length z; omega
theorem put_list (A : Option Addr) (c : Nat) (K : List Int) (w : World) (h : IntsAt w A K.length (fun i => K.getD i 0)) (hK : K.length ≤ 30) (hok : ∀ x ∈ K, okN x) :
    Calls Try.prog 8 #[.slice none 0 0, .slice A K.length c] w fun e w' => ∃ A c n, e = .returned (.tuple #[.slice A n c, .int .i64 0]) ∧ Hid (n = (encL K).length ∧ BytesR w' A (encL K)) ∧ n ≤ c ∧ (A = none → c = 0) ∧ n ≤ 270 ∧ Below w.heap.size w w' :=
  (put_a none 0 0 [] A K.length c _ w ⟨rfl, BytesR.nil⟩ (fun _ => rfl) (Nat.le_refl _) h (by omega)).mono fun e w' ⟨h1, h2⟩ => by
    rcases h1 with ⟨_, v, h1, hO⟩ | ⟨hn, _⟩
    · rw [List.nil_append, encT_list K _ (Nat.le_refl _), List.take_length] at hO
      obtain ⟨A, c, rfl, k1, k2, k3, k4, -⟩ := hO.form
      exact ⟨A, c, _, h1, Lib.hid ⟨rfl, k3⟩, k1, k2, by have := encL_length K; omega, h2⟩
    · refine absurd (fun i hi => ?_) hn
      show okN (K.getD i 0)
      rw [List.getD_eq_getElem?_getD, List.getElem?_eq_getElem hi]
      exact hok _ (List.getElem_mem hi)
theorem text_on (A : Option Addr) (n c : Nat) (E : List UInt8) (S : ByteArray) (w : World) (h : n = E.length ∧ BytesR w A E) (hA : A = none → c = 0) (hc : n ≤ c) (hl : n ≤ 270) (hs : S.size ≤ 3000) :
    Calls Try.prog 10 #[.slice A n c, .string S] w fun e w' => ∃ v, e = .returned (.tuple #[v, .int .i64 0]) ∧ OwnB w' w.heap.size v (E ++ enc (S.size : Nat) ++ sbs S) ∧ Below w.heap.size w w' :=
  (text_a A n c E S w h hA hc (by omega)).mono fun e w' ⟨h1, h2⟩ => by
    rcases h1 with ⟨_, v, h1, hO⟩ | ⟨h1, _⟩
    · exact ⟨v, h1, hO, h2⟩
    · omega
/-- Reading from a row of the call's own. -/
theorem read_own {B : Nat} {v : Value} {L : List UInt8} {w : World} (h : OwnB w B v L) :
    Calls Try.prog 15 #[v] w fun e w' => e = .returned (.pointer (some ⟨w.heap.size, 0, none⟩)) ∧ RdE w' w.heap.size L 0 ∧ Below w.heap.size w w' := by
  obtain ⟨A, c, rfl, k1, k2, k3, k4, -⟩ := h.form
  exact read_c A L.length c L w ⟨rfl, k3⟩ k2 k1 k4
theorem str_sbs (S : ByteArray) : str (sbs S) = S := by
  unfold str sbs
  cases S
  simp
theorem num_next (g : Nat) (z : Int) (K : List Int) (T : List UInt8) (w : World) (h : RdE w g (encL (z :: K) ++ T) 0) (hz : okN z) :
    Calls Try.prog 17 #[.pointer (some ⟨g, 0, none⟩), .int .i64 9007199254740991] w fun e w' => e = .returned (.int .i64 z) ∧ RdE w' g (encL K ++ T) 0 ∧ Keeps (fun i => i = g) w w' := by
  rw [encL_cons, List.append_assoc] at h
  obtain ⟨h1, h2, h3⟩ := dec_enc hz (encL K ++ T) hz.2
  exact num_ok g _ _ w h h1 h2 (by rw [h3, List.drop_left])
theorem text_next (g : Nat) (S : ByteArray) (T : List UInt8) (w : World) (h : RdE w g (enc (S.size : Nat) ++ sbs S ++ T) 0) (hS : S.size ≤ 3000) :
    Calls Try.prog 19 #[.pointer (some ⟨g, 0, none⟩), .int .i64 (S.size : Nat)] w fun e w' => e = .returned (.string S) ∧ RdE w' g T 0 ∧ Keeps (fun i => i = g) w w' :=
  (rtext_c g _ _ w h).mono fun e w' ⟨h1, h2, h3⟩ => by
    obtain ⟨e1, e2, e3⟩ := dec_text (m := (S.size : Nat)) ⟨by omega, by omega⟩ (sbs S) T (by rw [sbs_length]) (Int.le_refl _)
    rw [e2, str_sbs] at h1
    rw [e1, e3] at h2
    exact ⟨h1, h2, h3⟩
def KAt (w : World) (A : Option Addr) (K : List Int) (lim : Nat) : Prop := K ≠ [] → ∃ b off, A = some ⟨b, off, none⟩ ∧ b < lim ∧ ∀ i z, K[i]? = some z → w.cell? ⟨b, off + i, none⟩ = some (.int .i64 z)
theorem KAt.of {w : World} {A : Option Addr} {K : List Int} (h : IntsAt w A K.length (fun i => K.getD i 0)) : KAt w A K w.heap.size := fun hK => by
  have hpos : 0 < K.length := by cases K with | nil => exact absurd rfl hK | cons x K => simp
  obtain ⟨b, off, hA, hb, hx⟩ := h hpos
  refine ⟨b, off, hA, hb, fun i z hi => ?_⟩
  have hlt := (List.getElem?_eq_some_iff.1 hi).1
  refine (hx i hlt).trans ?_
  show some (Value.int .i64 (K.getD i 0)) = _
  rw [List.getD_eq_getElem?_getD, hi]
  rfl
theorem KAt.below {w w' : World} {A : Option Addr} {K : List Int} {lim : Nat} (h : KAt w A K lim) (k : Below lim w w') : KAt w' A K lim := fun hK => by
  obtain ⟨b, off, hA, hb, hx⟩ := h hK
  exact ⟨b, off, hA, hb, fun i z hi => (k.cell (p := ⟨b, off + i, none⟩) hb).trans (hx i z hi)⟩
theorem drop_cons' {M : List Int} {i : Nat} {x : Int} (h : M[i]? = some x) : M.drop i = x :: M.drop (i + 1) := by
  obtain ⟨hlt, rfl⟩ := List.getElem?_eq_some_iff.1 h
  exact List.drop_eq_getElem_cons hlt
theorem cut_S (s : ByteArray) (k : Nat) (h : k ≤ s.size) : (s.extract 0 k).size ≤ k := by rw [size_extract s k h]; exact Nat.le_refl _
set_option maxRecDepth 20000 in
set_option maxHeartbeats 400000 in
theorem back_c (A : Option Addr) (n c : Nat) (R : Nat → Int) (s : ByteArray) (A2 : Option Addr) (n2 c2 : Nat) (L2 : List UInt8) (w : World) (hR : IntsAt w A n R) (hwf : ∀ i, i < n → -9223372036854775808 ≤ R i ∧ R i ≤ 9223372036854775807)
    (hn : n ≤ 140737488355328) (hs : s.size ≤ 140737488355328) (h2 : n2 = L2.length ∧ BytesR w A2 L2) (hA2 : A2 = none → c2 = 0) (hn2 : n2 ≤ 140737488351232) :
    Calls Try.prog 5 #[.slice A n c, .string s, .slice A2 n2 c2] w fun e w' => e = .returned (.bool true) ∧ Below w.heap.size w w' := by
  have HR := Lib.hid hR
  have HW := Lib.hid hwf
  have H2 := Lib.hid h2
  clear hR hwf h2
  go_enter Try.func5, Try.ntmps5
  go_upto_block 0 with (go_at_call 13; with_reducible refine (works_c _).mono ?_; rintro e w1 ⟨rfl, hB1⟩)
  go_cut [7] (fun v wx => ∃ K : List Int, OwnI wx w.heap.size v K ∧ K.length ≤ 30 ∧ (∀ x ∈ K, okN x) ∧ Below w.heap.size w wx)
  case first =>
    go_wp2_with fail
    go_loopw [7, 8] (fun v y wr => ∃ (i : Nat) (K : List Int), i ≤ n ∧ i ≤ 30 ∧ y = .int .i64 i ∧ OwnI wr w.heap.size v K ∧ K.length = i ∧ (∀ x ∈ K, okN x) ∧ Below w.heap.size w wr) (fun _ y _ => 30 - (intOf y).toNat)
    case atStart => exact ⟨0, [], by omega, by omega, rfl, own_none _ _ 1 _, rfl, (fun x hx => by cases hx), hB1⟩
    case round =>
      clear hB1
      obtain ⟨i, K, hi, hi30, rfl, hO, hKl, hok, hB⟩ := hrel
      have HO := Lib.hid hO
      have HK := Lib.hid hKl
      have HOK := Lib.hid hok
      clear hO hKl hok
      by_cases hlt : (i : Int) < (n : Nat) ∧ (i : Int) < 30
      · obtain ⟨hlt1, hlt2⟩ := hlt
        obtain ⟨b, off, rfl, hb, hx⟩ := HR.out (by omega)
        have o0 := (hB.cell (p := ⟨b, off + i, none⟩) hb).trans (hx i (by omega))
        have hwi := HW.out i (by omega)
        obtain ⟨z, hz0, hN⟩ := number_c (R i) hwi.1 hwi.2
        have hl : Hid (K.length + 1 ≤ 1000) := by show K.length + 1 ≤ 1000; have := HK.out; omega
        clear hx hwi
        go_wp2_with (first
          | (at_builtin; refine wpList_append_int rfl _ _ rfl rfl HO.out hB hB.size z rfl hl.out ?_; intro v2 w2 hO2 hB2)
          | (go_at_call 14; with_reducible refine (hN _).mono ?_; rintro e w1' ⟨rfl, rfl⟩))
        go_roundw
        case rel =>
          refine ⟨i + 1, K ++ [z], by omega, by omega, rfl, hO2, by rw [List.length_append, HK.out]; rfl, fun x hx => ?_, hB2⟩
          rcases List.mem_append.1 hx with h | h
          · exact HOK.out x h
          · rw [List.mem_singleton.1 h]; exact hz0
        case measure => simp [intOf]; omega
      · rcases (by omega : (n : Int) ≤ i ∨ (30 : Int) ≤ i) with hge | hge
        · go_wp2_with fail
          go_meet
          exact ⟨K, HO.out, by have := HK.out; omega, HOK.out, hB⟩
        · go_wp2_with fail
          all_goals go_meet
          all_goals exact ⟨K, HO.out, by have := HK.out; omega, HOK.out, hB⟩
  case rest =>
    obtain ⟨K, hO, hK30, hok, hB⟩ := hcut
    clear hB1
    obtain ⟨Ak, ck, rfl, hck, hI⟩ := hO.form
    have HI := Lib.hid hI
    have HK := Lib.hid (KAt.of hI)
    have HOK := Lib.hid hok
    clear hO hI hok
    obtain ⟨w3, rfl⟩ : ∃ x : World, x = wc := ⟨_, rfl⟩
    go_upto_region 8 with fail
    go_cut [1] (fun v wx => (∃ S : ByteArray, v = .string S ∧ S.size ≤ 3000) ∧ wx = w3)
    case first =>
      by_cases h3000 : (3000 : Int) < (s.size : Nat)
      · have hx := cut_S s 3000 (by omega)
        go_wp2_with fail
        all_goals go_meet
        all_goals exact ⟨⟨_, rfl, by omega⟩, rfl⟩
      · go_wp2_with fail
        all_goals go_meet
        all_goals exact ⟨⟨_, rfl, by omega⟩, rfl⟩
    case rest =>
      obtain ⟨⟨S, rfl, hS⟩, rfl⟩ := hcut
      obtain ⟨i0, hi0, hz0, hz1, hz2⟩ := info_parts byte_info
      have HL2 : ∀ w', Below wc.heap.size wc w' → Hid (SrcR w' 1 A2 n2 c2 (bcs L2)) := fun w' hw => by
        show SrcR w' 1 A2 n2 c2 (bcs L2)
        rw [H2.out.1]
        exact ((H2.out.2.below hB).below hw).src hA2
      have HS5 : Hid ((encL K ++ enc (S.size : Nat) ++ sbs S).length + n2 ≤ 140737488355328) := by
        show (encL K ++ enc (S.size : Nat) ++ sbs S).length + n2 ≤ 140737488355328
        have h1 := encL_length K
        have h2 := enc_length (S.size : Nat)
        have h3 := sbs_length S
        simp only [List.length_append]
        omega
      go_wp2_with (first
        | (go_at_call 15; with_reducible refine (read_own HO6.out).mono ?_; rintro e w7 ⟨rfl, hR7, hb7⟩; have hB7 := below_lift hB6 hb7 hB6.size)
        | (at_builtin; refine wpList_append_src rfl _ _ _ rfl w4.heap.size 5 i0 _ 1 1 Try.underlying22 hi0 hz0 hz1 hz2 rfl (by omega) _ _ _ rfl hO5 _ _ _ (bcs L2) rfl (HL2 _ hB5).out (bcs_one L2) (by have := HS5.out; simp only [maxLen]; omega) (by have := HS5.out; omega) hb5.size ?_; intro v6 w6 hown hg6 _; have hB6 := below_grown hB5 hg6 hB5.size (fun k hk => Nat.le_trans hB4.size (own_from hO5 k hk)); have HO6 := Lib.hid (OwnB.of (by rw [bcs_append]; exact hown) : OwnB w6 w4.heap.size v6 (encL K ++ enc (S.size : Nat) ++ sbs S ++ L2)))
        | (go_at_call 10; with_reducible refine (text_on A4 n4 c4 _ S _ E4.out p2 p1 p3 hS).mono ?_; rintro e w5 ⟨v5, rfl, hO5, hb5⟩; have hB5 := below_lift hB4 hb5 hB4.size)
        | (go_at_call 8; with_reducible refine (put_list Ak ck K _ HI.out hK30 HOK.out).mono ?_; rintro e w4 ⟨A4, c4, n4, rfl, E4, p1, p2, p3, hB4⟩))
      obtain ⟨T, hT⟩ : ∃ T, enc (S.size : Nat) ++ sbs S ++ L2 = T := ⟨_, rfl⟩
      have hR0 : RdE w7 w6.heap.size (encL K ++ T) 0 := by
        rw [← hT]
        simpa only [List.append_assoc] using hR7
      have hg : wc.heap.size ≤ w6.heap.size := hB6.size
      have HT := Lib.hid hT
      clear hR7 hT hO5 hown hg6 HO6 hb7 hB6 hB5 hb5 HL2
      generalize w6.heap.size = g at *
      go_loopw [14] (fun y wr => ∃ j : Nat, j ≤ K.length ∧ y = .int .i64 j ∧ RdE wr g (encL (K.drop j) ++ T) 0 ∧ Below wc.heap.size wc wr) (fun y _ => K.length - (intOf y).toNat)
      case atStart => exact ⟨0, by omega, rfl, hR0, hB7⟩
      case round =>
        clear hR0 hB7
        obtain ⟨j, hj, rfl, hRj, hBj⟩ := hrel
        by_cases hlt : (j : Int) < (K.length : Nat)
        · obtain ⟨z, hz⟩ : ∃ z, K[j]? = some z := ⟨_, List.getElem?_eq_getElem (by omega)⟩
          have hz0 := HOK.out z (List.mem_of_getElem? hz)
          obtain ⟨b, off, rfl, hb, hx⟩ := (HK.out.below hBj) (by intro e; rw [e] at hz; simp at hz)
          have e0 := hx j z hz
          have hbg : ¬ (b = g) := by omega
          have hbl : b < wr.drew.heap.size := Nat.lt_of_lt_of_le hb hBj.size
          rw [drop_cons' hz] at hRj
          have hRd : RdE wr.drew g (encL (z :: K.drop (j + 1)) ++ T) 0 := hRj.below ((Below.refl _ _).drew)
          have e1 : wr.drew.cell? ⟨b, off + j, none⟩ = some (.int .i64 z) := e0
          have hBd : Below wc.heap.size wc wr.drew := hBj.drew
          clear hx hz HI HK
          go_wp2_with fail
          clear e0 hRj hBj
          go_region_held3 (fun w' => w'.cell? ⟨b, off + j, none⟩ = some (.int .i64 z)) (go_keep)
            (first | (go_at_call 17; with_reducible refine (num_next g z (K.drop (j + 1)) T _ hRd hz0).mono ?_; rintro e w8 ⟨rfl, hR8, hk8⟩; have hB8 := below_rd hBd hk8 hBd.size hg; have e2 : w8.cell? ⟨b, off + j, none⟩ = some (.int .i64 z) := (hk8.cell (p := ⟨b, off + j, none⟩) hbl hbg).trans e1; clear hRd hBd e1))
          go_wp2
          go_roundw
          case rel => exact ⟨j + 1, by omega, rfl, hR8, hB8⟩
          case measure => simp [intOf]; omega
        · obtain rfl : K.length = j := by omega
          have hRe : RdE wr g (enc (S.size : Nat) ++ sbs S ++ L2) 0 := by
            rw [List.drop_length, ← HT.out] at hRj
            exact hRj
          have hln : ((L2.length : Int) == (n2 : Int)) = true := by rw [H2.out.1]; simp
          have hend : Hid (((endE L2 0 == 0) == ((n2 : Int) == 0)) = true) := by
            show ((endE L2 0 == 0) == ((n2 : Int) == 0)) = true
            rw [H2.out.1]
            unfold endE
            by_cases h : 0 < L2.length
            · rw [if_pos ⟨rfl, h⟩, ne_zero (n := L2.length) h]
              rfl
            · rw [if_neg (by omega), show L2.length = 0 by omega]
              rfl
          go_wp2_with (first
            | (go_at_call 21; with_reducible refine (end_c g L2 0 _ hR8).mono ?_; rintro e w8' ⟨rfl, rfl⟩)
            | (go_at_call 18; with_reducible refine (err_c g L2 0 _ hR8).mono ?_; rintro e w8' ⟨rfl, rfl⟩)
            | (go_at_call 20; with_reducible refine (left_c g L2 0 _ hR8).mono ?_; rintro e w8' ⟨rfl, rfl⟩)
            | (go_at_call 19; with_reducible refine (text_next g S L2 _ hRe hS).mono ?_; rintro e w8 ⟨rfl, hR8, hk8⟩; have hB8 := below_rd hBj hk8 hBj.size hg))
          go_ret
          exact ⟨ret_bool hend.out, below_lift hB hB8 hB.size⟩
end Go.Proofs.Ytoknfbgbnjhgoaa
