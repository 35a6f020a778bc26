/- JobBound, walked. -/
import Derived.Test.YtomadlopljfcmaaBoundL
import Derived.Deep.CutBlock
import Derived.Deep.DeepCutAuto
namespace Go.Proofs.Ytomadlopljfcmaa
set_option linter.unusedVariables false
open Go.RowKit

theorem own_below {w w' : World} {base size n : Nat} {e : TypeId} {v : Value} {xs : List Value} (h : w.ownsRow base e size v n xs) (k : Below w.heap.size w w') : w'.ownsRow base e size v n xs := by
  obtain ⟨h1, h2⟩ := h
  refine ⟨h1, ?_⟩
  rcases h2 with h2 | ⟨g, cap, cur, e1, e0, e3⟩
  · exact .inl h2
  · have hb := e3.1
    have hlt : g < w.heap.size := by
      rcases Nat.lt_or_ge g w.heap.size with hlt | hge
      · exact hlt
      · rw [Array.getElem?_eq_none hge] at hb; cases hb
    exact .inr ⟨g, cap, cur, e1, e0, (k.block g hlt).trans hb, e3.2⟩
theorem opCells_app (L M : List OpV) : opCells (L ++ M) = opCells L ++ opCells M := by
  induction L with
  | nil => rfl
  | cons x L ih => simp [opCells, ih]
/-- Acts in a row of the call's own, from block B on. -/
def OwnO (w : World) (B : Nat) (v : Value) (K : List OpV) : Prop := w.ownsRow B 29 3 v K.length (opCells K)
theorem wpList_append_op {ops : Array Oper} {rest : List Oper} {o : Oper} {a : Act} {Q : Exit → Act → World → Prop} {w0 w : World} {B : Nat} {v : Value} {K : List OpV} (hgd : o.guard = none) (s x : Operand)
    (ho : o.op = .call { callee := .builtin .append, args := #[s, x], argTypes := #[30, 30] }) (hs : a.eval s = v) (hO : OwnO w B v K) (hB : Below B w0 w) (hBw : B ≤ w.heap.size) (n : Int)
    (hx : a.eval x = .slice (some ⟨w.heap.size, 0, none⟩) 1 1) (hl : K.length + 1 ≤ 1000)
    (h : ∀ v' w', OwnO w' B v' (K ++ [op2 1 n]) → Below B w0 w' → (∀ g t cs, g < B → Blk w g t cs → Blk w' g t cs) → wpList Try.prog ops Q rest (a.put o.dst v') w') : wpList Try.prog ops Q (o :: rest) a (w.alloc (.cells #[.int .i64 1, .int .i64 n, .string { data := #[] }] 29)) := by
  obtain ⟨i0, hi0, hz0, hz1, hz2⟩ := info_parts op_info
  have hsrc : SrcR (w.alloc (.cells #[.int .i64 1, .int .i64 n, .string { data := #[] }] 29)) 3 (some ⟨w.heap.size, 0, none⟩) 1 1 (opCells [op2 1 n]) := (opsR_new (L := [op2 1 n]) rfl).src (fun h => by cases h)
  refine wpList_append_src hgd s x _ ho B 29 i0 _ 3 32 Try.underlying30 hi0 hz0 hz1 hz2 rfl (by omega) v K.length (opCells K) hs (own_below hO ((Below.refl _ _).alloc (Nat.le_refl _) _)) _ _ _ (opCells [op2 1 n]) hx hsrc (opCells_one _) (by simp only [maxLen]; omega) (by omega) (by simp; omega) ?_
  intro v' w' hown hg _
  have hb1 : Below B w w' := below_grown ((Below.refl B w).alloc hBw _) hg (by simp; omega) (own_from hO)
  refine h v' w' ?_ (hB.trans hb1) (fun g t cs hgB hb => hb.below hb1 hgB)
  show w'.ownsRow B 29 3 v' (K ++ [op2 1 n]).length (opCells (K ++ [op2 1 n]))
  rw [opCells_app, List.length_append]
  exact hown
def GoodK (K : List OpV) : Prop := K.length ≤ 10 ∧ ∀ y ∈ K, ∃ n : Int, y = op2 1 n ∧ 1 ≤ n ∧ n ≤ 9
theorem goodK_runs {K : List OpV} (h : GoodK K) : Runs K := fun y hy => by
  obtain ⟨n, rfl, h1, h2⟩ := h.2 y hy
  exact ⟨rfl, h1⟩
theorem goodK_new {K : List OpV} (h : GoodK K) : newE K = 0 := by
  have hok : ∀ y ∈ K, okOp y = true := fun y hy => by
    obtain ⟨n, rfl, h1, h2⟩ := h.2 y hy
    simp [okOp, op2, spanIs, spanLo, spanHi, textMost]
    refine ⟨⟨?_, ?_⟩, ?_⟩ <;> first | omega | rfl
  unfold newE
  rw [if_neg (by have := h.1; omega), if_pos]
  unfold okAll
  rw [List.all_eq_true]
  exact hok
theorem goodK_snoc {K : List OpV} (h : GoodK K) (hl : K.length < 10) {n : Int} (h1 : 1 ≤ n) (h9 : n ≤ 9) : GoodK (K ++ [op2 1 n]) := by
  refine ⟨by simp; omega, fun y hy => ?_⟩
  rcases List.mem_append.1 hy with hy | hy
  · exact h.2 y hy
  · exact ⟨n, List.mem_singleton.1 hy, h1, h9⟩
theorem ownO_src {w : World} {B : Nat} {v : Value} {K : List OpV} (h : OwnO w B v K) : ∃ A c, v = .slice A K.length c ∧ (A = none → c = 0) ∧ OpsR w A K := by
  obtain ⟨A, c, b, rfl, hF⟩ := fresh_of_own (L := K) h
  exact ⟨A, c, rfl, fun e => (hF.2.2.1 e).2, hF.reads⟩
def put8 (w : World) (a : Nat) (t : TV) : World := ((((((((w.setCell ⟨a, 0, none⟩ (.int .i64 t.p)).setCell ⟨a, 1, none⟩ (.int .i64 t.d)).setCell ⟨a, 2, none⟩ (.int .i64 t.b)).setCell ⟨a, 3, none⟩ (.int .i64 t.ls)).setCell ⟨a, 4, none⟩ (.int .i64 t.l)).setCell ⟨a, 5, none⟩ (.int .i64 t.g)).setCell ⟨a, 6, none⟩ (.int .i64 t.lg)).setCell ⟨a, 7, none⟩ (.int .i64 t.lk))
theorem put8_blk {w : World} {a : Nat} {ty : TypeId} {t t' : TV} (h : Blk w a ty (tCells t)) : Blk (put8 w a t') a ty (tCells t') := by
  have h0 := h.set_ 0 (.int .i64 t'.p)
  have h1 := h0.set_ 1 (.int .i64 t'.d)
  have h2 := h1.set_ 2 (.int .i64 t'.b)
  have h3 := h2.set_ 3 (.int .i64 t'.ls)
  have h4 := h3.set_ 4 (.int .i64 t'.l)
  have h5 := h4.set_ 5 (.int .i64 t'.g)
  have h6 := h5.set_ 6 (.int .i64 t'.lg)
  have h7 := h6.set_ 7 (.int .i64 t'.lk)
  have e : ((((((((tCells t).setIfInBounds 0 (.int .i64 t'.p)).setIfInBounds 1 (.int .i64 t'.d)).setIfInBounds 2 (.int .i64 t'.b)).setIfInBounds 3 (.int .i64 t'.ls)).setIfInBounds 4 (.int .i64 t'.l)).setIfInBounds 5 (.int .i64 t'.g)).setIfInBounds 6 (.int .i64 t'.lg)).setIfInBounds 7 (.int .i64 t'.lk) = tCells t' := by simp [tCells]
  rw [e] at h7
  exact h7
theorem put8_below {B : Nat} {w0 w : World} {a : Nat} {t : TV} (h : Below B w0 w) (ha : B ≤ a) : Below B w0 (put8 w a t) := (((((((h.setCell ha _).setCell ha _).setCell ha _).setCell ha _).setCell ha _).setCell ha _).setCell ha _).setCell ha _
theorem tf (w : World) (a : Nat) (ty : TypeId) (t : TV) (h : Blk w a ty (tCells t)) : w.frozen? ⟨a, 0, none⟩ = false ∧ w.frozen? ⟨a, 1, none⟩ = false ∧ w.frozen? ⟨a, 2, none⟩ = false ∧ w.frozen? ⟨a, 3, none⟩ = false ∧ w.frozen? ⟨a, 4, none⟩ = false ∧ w.frozen? ⟨a, 5, none⟩ = false ∧ w.frozen? ⟨a, 6, none⟩ = false ∧ w.frozen? ⟨a, 7, none⟩ = false :=
  ⟨h.frozen 0, h.frozen 1, h.frozen 2, h.frozen 3, h.frozen 4, h.frozen 5, h.frozen 6, h.frozen 7⟩
theorem inv_sm {t : TV} {x : JV} {L : List OpV} {now : Int} (h : Inv t x L now) (hG : GoodT t) : sm x.ran ∧ sm x.tk ∧ sm x.tkn := by
  have := h.r0; have := h.r1; have := h.k0; have := h.n0; have := h.n1
  have := hG.p2; have := hG.d2; have := hG.b2; have := hG.l2; have := hG.g2; have := hG.k2
  have hk : x.tk ≤ 64 := by
    rcases h.sc with e | e | e | e
    · have := h.s0 e; omega
    · have := h.s1 e; omega
    · have := h.s2 e; omega
    · have := h.s3 e; omega
  exact ⟨⟨by omega, by omega⟩, ⟨by omega, by omega⟩, ⟨by omega, by omega⟩⟩
theorem jnewE_good {t : TV} {K : List OpV} (hG : GoodT t) (hK : GoodK K) : jnewE t K 7 = 0 := by
  have hm : mayB t = true := by
    have := hG.p2; have := hG.d2; have := hG.b1; have := hG.b2
    simp [mayB]; omega
  unfold jnewE
  rw [if_neg (by rw [hm]; simp), if_neg (by omega)]
  exact goodK_new hK
set_option maxRecDepth 20000 in
set_option maxHeartbeats 800000 in
theorem bound_c (t : TV) (A : Option Addr) (n c : Nat) (R : Nat → Int) (A2 : Option Addr) (n2 c2 : Nat) (R2 : Nat → Int) (w : World) (hR : IntsAt w A n R) (hR2 : IntsAt w A2 n2 R2) (hn : n ≤ 140737488355328) (hn2 : n2 ≤ 140737488355328) :
    Calls Try.prog 4 #[.agg (tCells t), .slice A n c, .slice A2 n2 c2] w fun e w' => e = .returned (.bool true) ∧ Below w.heap.size w w' := by
  have HR := Lib.hid hR
  have HR2 := Lib.hid hR2
  clear hR hR2
  obtain ⟨TC, hTC⟩ : ∃ TC, TC = tCells t := ⟨_, rfl⟩
  have HT0 : Blk (w.alloc (.cells (tCells t) 23)) w.heap.size 23 (tCells t) := Blk.new _ _ _
  have hB0 : Below w.heap.size w (w.alloc (.cells (tCells t) 23)) := (Below.refl _ _).alloc (Nat.le_refl _) _
  have hW : Calls Try.prog 19 #[] (w.alloc (.cells (tCells t) 23)) fun e w' => e = .returned (.bool true) ∧ Blk w' w.heap.size 23 (tCells t) ∧ Below w.heap.size w w' :=
    (works_c _).mono fun e w' ⟨h1, h2⟩ => ⟨h1, HT0.below h2 HT0.lt, below_lift hB0 h2 hB0.size⟩
  have hM := fun W => made_t t W
  clear HT0 hB0 hTC
  unfold tCells at hW hM ⊢
  go_enter Try.func4, Try.ntmps4
  go_upto_block 0 with (first
    | (go_at_call 20; with_reducible refine hMt.mono ?_; clear q0 q1 q2 q3 q4 q5 q6 q7; rintro e w2 ⟨rfl, hb2⟩; have HT2 := HT1.below hb2 HT1.lt; have hB2 := below_lift hB1 hb2 hB1.size; obtain ⟨q0, q1, q2, q3, q4, q5, q6, q7⟩ := tc w2 _ _ t HT2; obtain ⟨f0, f1, f2, f3, f4, f5, f6, f7⟩ := tf w2 _ _ t HT2)
    | (go_at_call 19; with_reducible refine hW.mono ?_; rintro e w1 ⟨rfl, HT1, hB1⟩; obtain ⟨t', hG, hMt⟩ := hM w1; obtain ⟨q0, q1, q2, q3, q4, q5, q6, q7⟩ := tc w1 _ _ t HT1))
  have HT3 : Blk (put8 w2 w.heap.size t') w.heap.size 23 (tCells t') := put8_blk HT2
  have hB3 := put8_below (t := t') hB2 (Nat.le_refl w.heap.size)
  have HTT := Lib.hid HT3
  clear HT1 HT2 hMt q0 q1 q2 q3 q4 q5 q6 q7 f0 f1 f2 f3 f4 f5 f6 f7 hb2 hB1 hB2 HT3
  show Code.wp _ _ _ _ (put8 w2 w.heap.size t')
  generalize put8 w2 w.heap.size t' = w3 at *
  have HR3 := Lib.hid (HR.out.below (hB3 : Below w.heap.size w w3))
  have HRR3 := Lib.hid (HR2.out.below (hB3 : Below w.heap.size w w3))
  clear HR HR2 hW hM TC
  go_cut [7] (fun v wx => ∃ K : List OpV, OwnO wx w3.heap.size v K ∧ GoodK K ∧ Below w3.heap.size w3 wx)
  case first =>
    go_wp2_with fail
    go_loopw [7, 8] (fun v y wr => ∃ (i : Nat) (K : List OpV), i ≤ n ∧ i ≤ 10 ∧ y = .int .i64 i ∧ OwnO wr w3.heap.size v K ∧ K.length = i ∧ GoodK K ∧ Below w3.heap.size w3 wr) (fun _ y _ => 10 - (intOf y).toNat)
    case atStart => exact ⟨0, [], by omega, by omega, rfl, own_none _ _ 3 _, rfl, ⟨by simp, fun y hy => by cases hy⟩, Below.refl _ _⟩
    case round =>
      obtain ⟨i, K, hi, hi10, rfl, hO, hKl, hGK, hB⟩ := hrel
      have HO := Lib.hid hO
      have HK := Lib.hid hKl
      have HG := Lib.hid hGK
      clear hO hKl hGK
      by_cases hlt : (i : Int) < (n : Nat) ∧ (i : Int) < 10
      · obtain ⟨hlt1, hlt2⟩ := hlt
        obtain ⟨b, off, rfl, hb, hx⟩ := HR3.out (by omega)
        have o0 := (hB.cell (p := ⟨b, off + i, none⟩) hb).trans (hx i (by omega))
        obtain ⟨z, z0, z9, hN⟩ := bring_b (R i) 9 (by omega) (by omega)
        have hl : Hid (K.length + 1 ≤ 1000) := by show K.length + 1 ≤ 1000; have := HK.out; omega
        clear hx
        go_wp2_with (first
          | (at_builtin; refine wpList_append_op rfl _ _ rfl rfl HO.out hB hB.size (1 + z) rfl hl.out ?_; intro v4 w4 hO4 hB4 _)
          | (go_at_call 21; with_reducible refine (hN _).mono ?_; rintro e w1' ⟨rfl, rfl⟩))
        go_roundw
        case rel => exact ⟨i + 1, K ++ [op2 1 (1 + z)], by omega, by omega, rfl, hO4, by rw [List.length_append, HK.out]; rfl, goodK_snoc HG.out (by have := HK.out; omega) (by omega) (by omega), hB4⟩
        case measure => simp [intOf]; omega
      · rcases (by omega : (n : Int) ≤ i ∨ (10 : Int) ≤ i) with hge | hge
        · go_wp2_with fail
          all_goals go_meet
          all_goals exact ⟨K, HO.out, HG.out, hB⟩
        · go_wp2_with fail
          all_goals go_meet
          all_goals exact ⟨K, HO.out, HG.out, hB⟩
  case rest =>
    obtain ⟨K, hO, hGK, hB⟩ := hcut
    obtain ⟨Ak, ck, rfl, hAk, hsrc⟩ := ownO_src hO
    have HTc := HTT.out.below hB HTT.out.lt
    have hBw : Below w.heap.size w wc := below_lift hB3 hB hB3.size
    have hNew := jnew_ok wc.heap.size t' Ak K.length ck K 7 wc wc (Below.refl _ _) (Nat.le_refl _) ⟨rfl, hsrc⟩ hAk (jnewE_good hG hGK)
    have HI0 := Lib.hid (inv_start t' K hG (goodK_runs hGK))
    have HRc := Lib.hid (HRR3.out.below hB)
    obtain ⟨q0, q1, q2, q3, q4, q5, q6, q7⟩ := tc wc _ _ t' HTc
    have HTC := Lib.hid HTc
    unfold tCells at hNew
    clear hO hsrc HTT HR3 HRR3 hB hB3 HTc
    obtain ⟨wN, rfl⟩ : ∃ x : World, x = wc := ⟨_, rfl⟩
    go_wp2_with (first
      | (go_at_call 6; with_reducible refine hNew.mono ?_; clear q0 q1 q2 q3 q4 q5 q6 q7; rintro e w5 ⟨j, g, b, rfl, hJ, hBJ⟩))
    go_loopw [11] (fun y wr => ∃ (m : Nat) (x : JV) (L : List OpV), y = .int .i64 (7 + (m : Int)) ∧ Inv t' x L (7 + (m : Int)) ∧ JobS wN.heap.size wr j g b x L ∧ Below wN.heap.size wN wr) (fun y _ => (120 - intOf y).toNat)
    case atStart => exact ⟨0, _, K, rfl, HI0.out, hJ, hBJ⟩
    case round =>
      clear hJ hBJ hNew
      obtain ⟨m, x, L, rfl, hI, hJ, hBJ⟩ := hrel
      have hm71 : (7 : Int) + (m : Int) ≤ 71 := by have := hI.w1; have := hG.d2; have := hG.p2; omega
      have HI := Lib.hid hI
      have HJ := Lib.hid hJ
      clear hI hJ
      obtain ⟨wo, rfl⟩ : ∃ x : World, x = wr := ⟨_, rfl⟩
      go_upto_if 58 with fail
      go_cut [12] (fun v wx => (∃ i : Int, v = .int .i64 i ∧ 0 ≤ i ∧ i < 6) ∧ wx = wo)
      case first =>
        by_cases hn0 : (0 : Int) < (n2 : Nat)
        · obtain ⟨b2, off2, rfl, hb2, hx2⟩ := HRc.out (by omega)
          have hkn : m % n2 < n2 := Nat.mod_lt _ (by omega)
          obtain ⟨y2, hy2⟩ : ∃ y, R2 (m % n2) = y := ⟨_, rfl⟩
          have o2 := (hBJ.cell (p := ⟨b2, off2 + m % n2, none⟩) hb2).trans (hx2 (m % n2) hkn)
          rw [hy2] at o2
          obtain ⟨z, z0, z6, hN⟩ := bring_b y2 6 (by omega) (by omega)
          have hx0 : 0 ≤ (7 + (m : Int) - 7) % (n2 : Int) := Int.emod_nonneg _ (by omega)
          have hx1 : (7 + (m : Int) - 7) % (n2 : Int) < (n2 : Int) := Int.emod_lt_of_pos _ (by omega)
          have hx3 : ((7 + (m : Int) - 7) % (n2 : Int)).toNat = m % n2 := by rw [show (7 + (m : Int) - 7) = (m : Int) by omega]; rfl
          clear hx2 hy2
          go_wp2_with (go_at_call 21; with_reducible refine (hN _).mono ?_; rintro e w6 ⟨rfl, rfl⟩)
          all_goals go_meet
          all_goals exact ⟨⟨z, rfl, z0, z6⟩, rfl⟩
        · go_wp2_with fail
          all_goals go_meet
          all_goals exact ⟨⟨0, rfl, by omega, by omega⟩, rfl⟩
      case rest =>
        obtain ⟨⟨i, rfl, hi0, hi6⟩, rfl⟩ := hcut
        clear HRc
        go_upto_region 18 with fail
        go_cut [73] (fun v wx => (∃ q : Bool, v = .bool q ∧ (q = true → 1 ≤ i ∧ i ≤ 3)) ∧ wx = wc)
        case first =>
          by_cases h4 : i < 4
          · by_cases h0 : 0 < i
            · go_wp2_with fail
              all_goals go_meet
              all_goals exact ⟨⟨true, rfl, fun _ => by omega⟩, rfl⟩
            · go_wp2_with fail
              all_goals go_meet
              all_goals exact ⟨⟨false, rfl, fun h => by cases h⟩, rfl⟩
          · go_wp2_with fail
            all_goals go_meet
            all_goals exact ⟨⟨false, rfl, fun h => by cases h⟩, rfl⟩
        case rest =>
          obtain ⟨⟨q, rfl, hq⟩, rfl⟩ := hcut
          have HQ := Lib.hid hq
          clear hq
          go_upto_if 73 with fail
          go_cut [] (fun wx => ∃ x1 : JV, Inv t' x1 L (7 + (m : Int)) ∧ JobS wN.heap.size wx j g b x1 L ∧ Below wN.heap.size wN wx)
          case first =>
            cases q with
            | true =>
              have hE := enter_v (s := i) HJ.out hBJ rfl rfl (inv_sm HI.out hG).2.2
              have hI1 := Lib.hid (inv_enter HI.out hG (HQ.out rfl).1 (HQ.out rfl).2)
              clear HQ
              go_wp2_with (go_at_call 7; with_reducible refine hE.mono ?_; rintro e w7 ⟨rfl, hJ7, hB7⟩)
              all_goals go_meet
              all_goals exact ⟨_, hI1.out, hJ7, hB7⟩
            | false =>
              clear HQ
              go_wp2_with fail
              all_goals go_meet
              all_goals exact ⟨x, HI.out, HJ.out, hBJ⟩
          case rest =>
            obtain ⟨x1, hI1, hJ1, hB1⟩ := hcut
            have HI1 := Lib.hid hI1
            have HJ1 := Lib.hid hJ1
            clear hI1 hJ1 HI HJ hBJ
            go_upto_if 78 with fail
            go_cut [] (fun wx => ∃ x2 : JV, Inv t' x2 L (7 + (m : Int)) ∧ JobS wN.heap.size wx j g b x2 L ∧ Below wN.heap.size wN wx)
            case first =>
              by_cases hi4 : i = 4
              · have e : (i == 4) = true := by simp [hi4]
                have hE := leave_v HJ1.out hB1 rfl rfl
                have hI2 := Lib.hid (inv_leave HI1.out hG)
                clear hi4
                go_wp2_with (go_at_call 8; with_reducible refine hE.mono ?_; rintro e w7 ⟨rfl, hJ7, hB7⟩)
                all_goals go_meet
                all_goals exact ⟨_, hI2.out, hJ7, hB7⟩
              · have e : (i == 4) = false := by simp [hi4]
                clear hi4
                go_wp2_with fail
                all_goals go_meet
                all_goals exact ⟨x1, HI1.out, HJ1.out, hB1⟩
            case rest =>
              obtain ⟨x2, hI2, hJ2, hB2⟩ := hcut
              have HI2 := Lib.hid hI2
              have HJ2 := Lib.hid hJ2
              clear hI2 hJ2 HI1 HJ1 hB1
              have hIn := in_c j g x2 _ HJ2.out.blk
              go_upto_region 23 with (first
                | (go_at_call 14; with_reducible refine hIn.mono ?_; rintro e w8 ⟨rfl, hb8⟩))
              have HJ8 := Lib.hid (HJ2.out.below hb8)
              have hB8 := below_lift hB2 hb8 hB2.size
              clear hIn hb8 HJ2 hB2
              go_cut [117] (fun v wx => v = .bool false ∧ JobS wN.heap.size wx j g b x2 L ∧ Below wN.heap.size wN wx)
              case first =>
                have HT8 := HTC.out.below hB8 HTC.out.lt
                obtain ⟨q0, q1, q2, q3, q4, q5, q6, q7⟩ := tc w8 _ _ t' HT8
                have hRan : ∀ n, Calls Try.prog 16 #[.pointer (some ⟨j, 0, none⟩)] (w8.drewN n) fun e w' => e = .returned (.int .i64 x2.ran) ∧ w' = w8.drewN n := fun n => (jran_c j g x2 _ (Blk.drewN HJ8.out.blk n)).mono fun e w' ⟨k1, k2⟩ => ⟨k1, k2.symm⟩
                have hTk : ∀ n, Calls Try.prog 17 #[.pointer (some ⟨j, 0, none⟩)] (w8.drewN n) fun e w' => e = .returned (.int .i64 x2.tkn) ∧ w' = w8.drewN n := fun n => (takes_c j g x2 _ (Blk.drewN HJ8.out.blk n)).mono fun e w' ⟨k1, k2⟩ => ⟨k1, k2.symm⟩
                have d1 : decide (t'.b < x2.ran) = false := decide_eq_false (by have := HI2.out.r1; omega)
                have d2 : decide (t'.lk < x2.tkn) = false := decide_eq_false (by have := HI2.out.n1; omega)
                rcases HI2.out.sc with hs | hs | hs | hs
                · have e1 : (x2.sec == 1) = false := by simp [hs]
                  have e2 : (x2.sec == 2) = false := by simp [hs]
                  clear hs
                  go_quiet ((first
                    | (go_at_call 16; exact Calls.quiet_of_same (hRan _))
                    | (go_at_call 17; exact Calls.quiet_of_same (hTk _))))
                  go_wp2
                  all_goals go_meet
                  all_goals exact ⟨rfl, HJ8.out.below (below_drewN (Below.refl _ _) _), below_drewN hB8 _⟩
                · have e1 : (x2.sec == 1) = true := by simp [hs]
                  have e2 : (x2.sec == 2) = false := by simp [hs]
                  have d3 : decide (t'.l < x2.tk) = false := decide_eq_false (by have := HI2.out.s1 hs; omega)
                  clear hs
                  go_quiet ((first
                    | (go_at_call 16; exact Calls.quiet_of_same (hRan _))
                    | (go_at_call 17; exact Calls.quiet_of_same (hTk _))))
                  go_wp2
                  all_goals go_meet
                  all_goals exact ⟨rfl, HJ8.out.below (below_drewN (Below.refl _ _) _), below_drewN hB8 _⟩
                · have e1 : (x2.sec == 1) = false := by simp [hs]
                  have e2 : (x2.sec == 2) = true := by simp [hs]
                  have d3 : decide (t'.lg < x2.tk) = false := decide_eq_false (by have := HI2.out.s2 hs; omega)
                  clear hs
                  go_quiet ((first
                    | (go_at_call 16; exact Calls.quiet_of_same (hRan _))
                    | (go_at_call 17; exact Calls.quiet_of_same (hTk _))))
                  go_wp2
                  all_goals go_meet
                  all_goals exact ⟨rfl, HJ8.out.below (below_drewN (Below.refl _ _) _), below_drewN hB8 _⟩
                · have e1 : (x2.sec == 1) = false := by simp [hs]
                  have e2 : (x2.sec == 2) = false := by simp [hs]
                  clear hs
                  go_quiet ((first
                    | (go_at_call 16; exact Calls.quiet_of_same (hRan _))
                    | (go_at_call 17; exact Calls.quiet_of_same (hTk _))))
                  go_wp2
                  all_goals go_meet
                  all_goals exact ⟨rfl, HJ8.out.below (below_drewN (Below.refl _ _) _), below_drewN hB8 _⟩
              case rest =>
                obtain ⟨rfl, hJ9, hB9⟩ := hcut
                have HJ9 := Lib.hid hJ9
                clear hJ9 HJ8 hB8
                by_cases hL : L = []
                · subst hL
                  have hem : ([] : List OpV).isEmpty = true := rfl
                  have HF : Hid (faultE x2 [] (7 + (m : Int)) = 0) := if_pos rfl
                  go_wp2_with (first
                    | (go_at_call 11; with_reducible refine (fault_v hJ10 hB10 HF.out).mono ?_; rintro e w11 ⟨rfl, hJ11, hB11⟩)
                    | (go_at_call 18; with_reducible refine (done_v HJ9.out hB9 (is := true) hem).mono ?_; rintro e w10 ⟨rfl, hJ10, hB10⟩))
                  go_ret
                  exact ⟨rfl, below_lift hBw hB11 hBw.size⟩
                · have hem : L.isEmpty = false := by cases L with | nil => exact absurd rfl hL | cons a b => rfl
                  rcases fault_vals HI2.out with hf0 | ⟨hf1, hrb⟩ | hf2 | ⟨hf3, hge⟩
                  · have HF : Hid (faultE x2 L (7 + (m : Int)) = 0) := hf0
                    obtain ⟨r1, r2, hIn⟩ := inv_run HI2.out hL hf0
                    have HIN := Lib.hid hIn
                    have hsm := inv_sm HI2.out hG
                    clear hf0 hIn hL
                    by_cases hs3 : x2.sec = 3
                    · have e3 : (x2.sec == 3) = true := by simp [hs3]
                      have HRU := Lib.hid (r1 hs3)
                      clear r1 r2 hs3
                      go_wp2_with (first
                        | (go_at_call 12; with_reducible refine (run_v hJ11 hB11 HRU.out rfl rfl hsm.1 hsm.2.1).mono ?_; rintro e w12 ⟨rfl, hJ12, hB12⟩)
                        | (go_at_call 11; with_reducible refine (fault_v hJ10 hB10 HF.out).mono ?_; rintro e w11 ⟨rfl, hJ11, hB11⟩)
                        | (go_at_call 18; with_reducible refine (done_v HJ9.out hB9 (is := false) hem).mono ?_; rintro e w10 ⟨rfl, hJ10, hB10⟩))
                      go_roundw
                      case rel => exact ⟨m + 1, _, _, by congr 1, by have := HIN.out; rw [show (7 : Int) + ((m + 1 : Nat) : Int) = 7 + (m : Int) + 1 by omega]; exact this, hJ12, hB12⟩
                      case measure => simp [intOf]; omega
                    · have e3 : (x2.sec == 3) = false := by simp [hs3]
                      have HRU := Lib.hid (r2 hs3)
                      clear r1 r2 hs3
                      go_wp2_with (first
                        | (go_at_call 12; with_reducible refine (run_v hJ11 hB11 HRU.out rfl rfl hsm.1 hsm.2.1).mono ?_; rintro e w12 ⟨rfl, hJ12, hB12⟩)
                        | (go_at_call 11; with_reducible refine (fault_v hJ10 hB10 HF.out).mono ?_; rintro e w11 ⟨rfl, hJ11, hB11⟩)
                        | (go_at_call 18; with_reducible refine (done_v HJ9.out hB9 (is := false) hem).mono ?_; rintro e w10 ⟨rfl, hJ10, hB10⟩))
                      go_roundw
                      case rel => exact ⟨m + 1, _, _, by congr 1, by have := HIN.out; rw [show (7 : Int) + ((m + 1 : Nat) : Int) = 7 + (m : Int) + 1 by omega]; exact this, hJ12, hB12⟩
                      case measure => simp [intOf]; omega
                  · have HF : Hid (faultE x2 L (7 + (m : Int)) = 1) := hf1
                    clear hf1
                    go_wp2_with (first
                      | (go_at_call 11; with_reducible refine (fault_v hJ10 hB10 HF.out).mono ?_; rintro e w11 ⟨rfl, hJ11, hB11⟩)
                      | (go_at_call 18; with_reducible refine (done_v HJ9.out hB9 (is := false) hem).mono ?_; rintro e w10 ⟨rfl, hJ10, hB10⟩))
                    have HT11 := HTC.out.below hB11 HTC.out.lt
                    obtain ⟨q0, q1, q2, q3, q4, q5, q6, q7⟩ := tc w11 _ _ t' HT11
                    have HJ11 := Lib.hid hJ11
                    have hRan : ∀ n, Calls Try.prog 16 #[.pointer (some ⟨j, 0, none⟩)] (w11.drewN n) fun e w' => e = .returned (.int .i64 x2.ran) ∧ w' = w11.drewN n := fun n => (jran_c j g x2 _ (Blk.drewN HJ11.out.blk n)).mono fun e w' ⟨k1, k2⟩ => ⟨k1, k2.symm⟩
                    clear hJ11 hJ10 hB10
                    have b1 : (x2.ran == t'.b) = true := by simp [hrb]
                    clear hrb
                    go_quiet ((first
                      | (go_at_call 16; exact Calls.quiet_of_same (hRan _))))
                    go_wp2
                    go_ret
                    exact ⟨rfl, below_drewN (below_lift hBw hB11 hBw.size) _⟩
                  · have HF : Hid (faultE x2 L (7 + (m : Int)) = 2) := hf2
                    clear hf2
                    go_wp2_with (first
                      | (go_at_call 11; with_reducible refine (fault_v hJ10 hB10 HF.out).mono ?_; rintro e w11 ⟨rfl, hJ11, hB11⟩)
                      | (go_at_call 18; with_reducible refine (done_v HJ9.out hB9 (is := false) hem).mono ?_; rintro e w10 ⟨rfl, hJ10, hB10⟩))
                    have HT11 := HTC.out.below hB11 HTC.out.lt
                    obtain ⟨q0, q1, q2, q3, q4, q5, q6, q7⟩ := tc w11 _ _ t' HT11
                    have HJ11 := Lib.hid hJ11
                    have hRan : ∀ n, Calls Try.prog 16 #[.pointer (some ⟨j, 0, none⟩)] (w11.drewN n) fun e w' => e = .returned (.int .i64 x2.ran) ∧ w' = w11.drewN n := fun n => (jran_c j g x2 _ (Blk.drewN HJ11.out.blk n)).mono fun e w' ⟨k1, k2⟩ => ⟨k1, k2.symm⟩
                    clear hJ11 hJ10 hB10
                    go_quiet ((first
                      | (go_at_call 16; exact Calls.quiet_of_same (hRan _))))
                    go_wp2
                    go_ret
                    exact ⟨rfl, below_drewN (below_lift hBw hB11 hBw.size) _⟩
                  · have HF : Hid (faultE x2 L (7 + (m : Int)) = 3) := hf3
                    clear hf3
                    go_wp2_with (first
                      | (go_at_call 11; with_reducible refine (fault_v hJ10 hB10 HF.out).mono ?_; rintro e w11 ⟨rfl, hJ11, hB11⟩)
                      | (go_at_call 18; with_reducible refine (done_v HJ9.out hB9 (is := false) hem).mono ?_; rintro e w10 ⟨rfl, hJ10, hB10⟩))
                    have HT11 := HTC.out.below hB11 HTC.out.lt
                    obtain ⟨q0, q1, q2, q3, q4, q5, q6, q7⟩ := tc w11 _ _ t' HT11
                    have HJ11 := Lib.hid hJ11
                    have hRan : ∀ n, Calls Try.prog 16 #[.pointer (some ⟨j, 0, none⟩)] (w11.drewN n) fun e w' => e = .returned (.int .i64 x2.ran) ∧ w' = w11.drewN n := fun n => (jran_c j g x2 _ (Blk.drewN HJ11.out.blk n)).mono fun e w' ⟨k1, k2⟩ => ⟨k1, k2.symm⟩
                    clear hJ11 hJ10 hB10
                    have hw : IntKind.i64.wrap (7 + t'.d) = 7 + t'.d := IntWalk.i64_in _ (by have := hG.d1; have := hG.d2; have := hG.p2; omega)
                    have b3 : decide (7 + t'.d ≤ 7 + (m : Int)) = true := decide_eq_true hge
                    go_quiet ((first
                      | (go_at_call 16; exact Calls.quiet_of_same (hRan _))))
                    go_wp2
                    go_ret
                    exact ⟨rfl, below_drewN (below_lift hBw hB11 hBw.size) _⟩
end Go.Proofs.Ytomadlopljfcmaa
