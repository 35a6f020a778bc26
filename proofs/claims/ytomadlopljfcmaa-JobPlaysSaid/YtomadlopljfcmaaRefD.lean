/- The document's row: New; the row as a caller sees it. -/
import Derived.Test.YtomadlopljfcmaaRefC
namespace Go.Proofs.Ytomadlopljfcmaa
set_option linter.unusedVariables false
open Go.RowKit

theorem okAll_drop (L : List OpV) (k : Nat) (x : OpV) (h : L[k]? = some x) : okAll (L.drop k) = (okOp x && okAll (L.drop (k + 1))) := by
  have hk : k < L.length := (List.getElem?_eq_some_iff.1 h).1
  have hx : L[k] = x := (List.getElem?_eq_some_iff.1 h).2
  rw [List.drop_eq_getElem_cons hk, hx]
  rfl
theorem box_info : (Try.prog.info? 77).map (fun i => (i.zero, i.size, i.bytes)) = some (some (.agg #[.slice none 0 0]), 1, 24) := by kernel_rfl
set_option maxHeartbeats 800000 in
theorem newbad_r (A : Option Addr) (c : Nat) (L : List OpV) (w : World) (hl : L.length ≤ 65536) (h : OpsR w A L) (he : newE L ≠ 0) :
    Calls Try.prog 38 #[.slice A L.length c] w fun e w' => e = .returned (.tuple #[.pointer none, .int .i64 (newE L)]) ∧ Below w.heap.size w w' := by
  by_cases h32 : 32 < L.length
  · have E : Hid (newE L = 5) := if_pos h32
    clear he
    have h32' : (32 : Int) < (L.length : Nat) := by omega
    go_enter Try.func38, Try.ntmps38
    go_wp2
    go_ret2
    exact ⟨by rw [E.out]; rfl, Below.refl _ _⟩
  · have hok : okAll L = false := by
      unfold newE at he
      rw [if_neg h32] at he
      split at he
      · exact absurd rfl he
      · rename_i h; simpa using h
    have E : Hid (newE L = 2) := by show newE L = 2; unfold newE; rw [if_neg h32, hok]; rfl
    have Hok := Lib.hid hok
    have H := Lib.hid h
    have h32' : ((L.length : Nat) : Int) ≤ 32 := by omega
    clear he hok h
    go_enter Try.func38, Try.ntmps38
    go_wp2
    go_loopw [4] (fun x wr => ∃ k : Nat, k ≤ L.length ∧ x = .int .i64 k ∧ okAll (L.drop k) = false ∧ Below w.heap.size w wr) (fun x _ => L.length - (intOf x).toNat)
    case atStart => exact ⟨0, Nat.zero_le _, rfl, Hok.out, Below.refl _ _⟩
    case round =>
      obtain ⟨k, hk, rfl, ho, hB⟩ := hrel
      have Ho := Lib.hid ho
      by_cases hlt : k < L.length
      · obtain ⟨b, off, rfl, hb, hx⟩ := H.out (by intro e; rw [e] at hlt; simp at hlt)
        obtain ⟨x, hxk⟩ : ∃ x, L[k]? = some x := ⟨_, List.getElem?_eq_getElem hlt⟩
        obtain ⟨o0, o1, o2⟩ := (hx k x hxk).keep (w' := wr) (fun p hp => hB.cell (by rw [hp]; exact hb))
        have HD := Lib.hid (okAll_drop L k x hxk)
        clear hx hxk ho
        have hltI : (k : Int) < (L.length : Nat) := by omega
        cases hok : okOp x with
        | true =>
          have hc : checkE x = 0 := by simp [checkE, hok]
          have HC := Lib.hid hc
          have Hk := Lib.hid hok
          clear hc hok
          go_wp2_with (go_at_call 54; refine (lift (a := w) (check_b x _) hB).mono ?_; rw [HC.out]; clear hB; rintro e w1 ⟨rfl, hB⟩)
          go_roundw
          case rel => exact ⟨k + 1, by omega, rfl, by have := Ho.out; rw [HD.out, Hk.out] at this; simpa using this, hB⟩
          case measure => simp [intOf]; omega
        | false =>
          have hc : checkE x = 2 := by simp [checkE, hok]
          have HC := Lib.hid hc
          clear hc hok
          go_wp2_with (go_at_call 54; refine (lift (a := w) (check_b x _) hB).mono ?_; rw [HC.out]; clear hB; rintro e w1 ⟨rfl, hB⟩)
          go_ret2
          exact ⟨by rw [E.out]; rfl, hB⟩
      · exfalso
        have : k = L.length := by omega
        subst this
        simp [okAll] at ho
set_option maxHeartbeats 800000 in
theorem new_r (A : Option Addr) (c : Nat) (L : List OpV) (w : World) (h : OpsR w A L) (hA : A = none → c = 0) (he : newE L = 0) :
    Calls Try.prog 38 #[.slice A L.length c] w fun e w' => ∃ g b, e = .returned (.tuple #[.pointer (some ⟨g, 0, none⟩), .int .i64 0]) ∧ RowR w' g b L ∧ w.heap.size ≤ g ∧ w.heap.size ≤ b ∧ g < w'.heap.size ∧ b < w'.heap.size ∧ Below w.heap.size w w' := by
  obtain ⟨i0, hi0, hz0, hz1, hz2⟩ := info_parts op_info
  have hok := newE_ok L he
  have hall : okAll L = true := by
    unfold newE at he
    split at he
    · omega
    · split at he
      · assumption
      · omega
  have Hok := Lib.hid hok
  have H := Lib.hid h
  have HA := Lib.hid hA
  have h32 : ((L.length : Nat) : Int) ≤ 32 := by have := hok.1; omega
  have hl : L.length ≤ 65536 := by have := hok.1; omega
  clear he hall hok h hA
  go_enter Try.func38, Try.ntmps38
  go_wp2
  go_loopw [4] (fun x wr => ∃ k : Nat, k ≤ L.length ∧ x = .int .i64 k ∧ Below w.heap.size w wr) (fun x _ => L.length - (intOf x).toNat)
  case atStart => exact ⟨0, Nat.zero_le _, rfl, Below.refl _ _⟩
  case round =>
    obtain ⟨k, hk, rfl, hB⟩ := hrel
    by_cases hlt : k < L.length
    · obtain ⟨b, off, rfl, hb, hx⟩ := H.out (by intro e; rw [e] at hlt; simp at hlt)
      obtain ⟨x, hxk⟩ : ∃ x, L[k]? = some x := ⟨_, List.getElem?_eq_getElem hlt⟩
      obtain ⟨o0, o1, o2⟩ := (hx k x hxk).keep (w' := wr) (fun p hp => hB.cell (by rw [hp]; exact hb))
      have hltI : (k : Int) < (L.length : Nat) := by omega
      have hc : checkE x = 0 := by simp [checkE, Hok.out.2 x (List.mem_of_getElem? hxk)]
      have HC := Lib.hid hc
      clear hx hxk hc
      go_wp2_with (go_at_call 54; refine (lift (a := w) (check_b x _) hB).mono ?_; rw [HC.out]; clear hB; rintro e w1 ⟨rfl, hB⟩)
      go_roundw
      case rel => exact ⟨k + 1, by omega, rfl, hB⟩
      case measure => simp [intOf]; omega
    · obtain rfl : L.length = k := by omega
      have hsl : Hid (SrcR (wr.alloc (.cells #[.slice none 0 0] 77)) 3 A L.length c (opCells L)) := (H.out.below (hB.alloc hB.size _)).src HA.out
      go_wp2_with (at_builtin; refine wpList_append_src rfl _ _ _ rfl (wr.heap.size + 1) 29 i0 _ 3 32 Try.underlying30 hi0 hz0 hz1 hz2 rfl (by omega) (.slice none 0 0) 0 [] rfl (own_none _ _ _ _) _ _ _ (opCells L) rfl hsl.out (opCells_one L) (by simp only [maxLen]; omega) (by omega) (by simp) ?_; intro v1 w1 hown hg _; have hb := below_grown (Below.refl (wr.heap.size + 1) _) hg (by simp) (by simp [Value.ownBlock]); have c0 := (hb.cell (p := ⟨wr.heap.size, 0, none⟩) (by simp)).trans (show _ = some (.slice none 0 0) from by rw [World.cell?_alloc_at _ _ _ _ rfl]; rfl); have fr := (hb.frozen (p := ⟨wr.heap.size, 0, none⟩) (by simp)).trans (show _ = false from (Blk.new wr _ _).frozen 0); obtain ⟨A', c', b', rfl, hF⟩ := fresh_of_own (L := L) (by simpa using hown); have HBL := Lib.hid ((Blk.new wr _ _).below hb (by simp)); clear hown)
      go_ret2
      have hsz : wr.heap.size < w1.heap.size := Nat.lt_of_lt_of_le (by simp) hb.size
      have hsz' : wr.heap.size < (w1.setCell ⟨wr.heap.size, 0, none⟩ (.slice A' L.length c')).heap.size := by simpa [World.setCell] using hsz
      have hblk : Blk (w1.setCell ⟨wr.heap.size, 0, none⟩ (.slice A' L.length c')) wr.heap.size 77 #[.slice A' L.length c'] := HBL.out.set_ 0 _
      have hB1 : Below w.heap.size w w1 := (hB.alloc hB.size (.cells #[.slice none 0 0] 77)).trans (hb.mono (Nat.le_succ_of_le hB.size))
      have hB2 : Below w.heap.size w (w1.setCell ⟨wr.heap.size, 0, none⟩ (.slice A' L.length c')) := hB1.setCell hB.size _
      by_cases hn : A' = none
      · have hL := (hF.2.2.1 hn).1
        subst hL
        exact ⟨wr.heap.size, wr.heap.size, rfl, ⟨A', c', 0, hblk, hF.1, fun h => absurd rfl h, fun h => (hF.2.2.1 h).2⟩, hB.size, hB.size, hsz', hsz', hB2⟩
      · obtain ⟨g1, g2, g3⟩ := hF.2.2.2 hn
        obtain ⟨C, hC⟩ := g3.1
        have hlt := hC.lt
        have hne : b' ≠ wr.heap.size := by omega
        refine ⟨wr.heap.size, b', rfl, ⟨A', c', 0, hblk, hF.1, fun _ => ⟨g2, g3.keep (Below.heap_setCell _ _ _ _ hne)⟩, fun h => (hF.2.2.1 h).2⟩, hB.size, by have := hB.size; omega, hsz', by simpa [World.setCell] using hlt, hB2⟩

/-- The document's row, in memory from block B on. -/
structure StdR (B : Nat) (w : World) (g b : Nat) (L : List OpV) : Prop where
  row : RowR w g b L
  ok : OkRow L
  gB : B ≤ g
  bB : B ≤ b
  gl : g < w.heap.size
  bl : b < w.heap.size
section
variable {B g b : Nat} {L : List OpV} {w0 w w' : World}
theorem StdR.alloc (h : StdR B w g b L) (o : Obj) : StdR B (w.alloc o) g b L :=
  ⟨h.row.keep (Below.heap_alloc _ _ _ h.gl) (Below.heap_alloc _ _ _ h.bl), h.ok, h.gB, h.bB, by have := h.gl; simp; omega, by have := h.bl; simp; omega⟩
theorem StdR.setCell (h : StdR B w g b L) {p : Addr} (h1 : g ≠ p.block) (h2 : b ≠ p.block) (u : Value) : StdR B (w.setCell p u) g b L :=
  ⟨h.row.keep (Below.heap_setCell _ _ _ _ h1) (Below.heap_setCell _ _ _ _ h2), h.ok, h.gB, h.bB, by have := h.gl; simpa [World.setCell] using this, by have := h.bl; simpa [World.setCell] using this⟩
theorem StdR.below (h : StdR B w g b L) (k : Below w.heap.size w w') : StdR B w' g b L :=
  ⟨h.row.keep (k.block _ h.gl) (k.block _ h.bl), h.ok, h.gB, h.bB, Nat.lt_of_lt_of_le h.gl k.size, Nat.lt_of_lt_of_le h.bl k.size⟩
theorem StdR.keeps {S : Nat → Prop} (h : StdR B w g b L) (k : Keeps S w w') (h1 : ¬ S g) (h2 : ¬ S b) : StdR B w' g b L :=
  ⟨h.row.keep (k.block _ h.gl h1) (k.block _ h.bl h2), h.ok, h.gB, h.bB, Nat.lt_of_lt_of_le h.gl k.size, Nat.lt_of_lt_of_le h.bl k.size⟩
theorem StdR.turn (h : StdR B w g b L) {L' : List OpV} (hR : RowR w' g b L') (ho : OkRow L') (hK : Keeps (two g b) w w') : StdR B w' g b L' :=
  ⟨hR, ho, h.gB, h.bB, Nat.lt_of_lt_of_le h.gl hK.size, Nat.lt_of_lt_of_le h.bl hK.size⟩
theorem StdR.bel (h : StdR B w g b L) (hB : Below B w0 w) (hs : B ≤ w.heap.size) (hK : Keeps (two g b) w w') : Below B w0 w' :=
  Below.keeps hB hK hs (fun i hi => by
    have := h.gB; have := h.bB
    rcases hi with rfl | rfl <;> assumption)
theorem StdR.hs (h : StdR B w g b L) : B ≤ w.heap.size := by have := h.gB; have := h.gl; omega
theorem nextr_s (h : StdR B w g b L) (hB : Below B w0 w) {x : OpV} {is : Bool} (hx : headOf L = x) (hi : (!L.isEmpty) = is) :
    Calls Try.prog 55 #[.pointer (some ⟨g, 0, none⟩)] w fun e w' => e = .returned (.tuple #[.agg #[.int .i64 x.k, .int .i64 x.n, .string x.s], .bool is]) ∧ StdR B w' g b L ∧ Below B w0 w' ∧ Keeps (two g b) w w' :=
  (next_r g b L w h.row).mono fun e w' ⟨he, hb⟩ => ⟨by rw [he, hx, hi]; rfl, h.below hb, below_lift hB hb h.hs, Keeps.of_below hb⟩
theorem leftr_s (h : StdR B w g b L) (hB : Below B w0 w) {v : Int} (hv : leftOf L = v) :
    Calls Try.prog 56 #[.pointer (some ⟨g, 0, none⟩)] w fun e w' => e = .returned (.int .i64 v) ∧ StdR B w' g b L ∧ Below B w0 w' ∧ Keeps (two g b) w w' :=
  (left_r g b L w h.row h.ok).mono fun e w' ⟨he, hb⟩ => ⟨by rw [he, hv], h.below hb, below_lift hB hb h.hs, Keeps.of_below hb⟩
theorem didr_s (h : StdR B w g b L) (hB : Below B w0 w) {v : Int} {L' : List OpV} (hv : didE L = v) (hl : didL L = L') :
    Calls Try.prog 41 #[.pointer (some ⟨g, 0, none⟩)] w fun e w' => e = .returned (.int .i64 v) ∧ StdR B w' g b L' ∧ Below B w0 w' ∧ Keeps (two g b) w w' :=
  (did_r g b L w h.row h.ok.1).mono fun e w' ⟨he, hR, hK⟩ => ⟨by rw [he, hv], hl ▸ h.turn hR (ok_did h.ok) hK, h.bel hB h.hs hK, hK⟩
theorem ranr_s (h : StdR B w g b L) (hB : Below B w0 w) {v : Int} {L' : List OpV} (hv : ranE L = v) (hl : ranL L = L') :
    Calls Try.prog 42 #[.pointer (some ⟨g, 0, none⟩)] w fun e w' => e = .returned (.int .i64 v) ∧ StdR B w' g b L' ∧ Below B w0 w' ∧ Keeps (two g b) w w' :=
  (ran_r g b L w h.row h.ok).mono fun e w' ⟨he, hR, hK⟩ => ⟨by rw [he, hv], hl ▸ h.turn hR (ok_ran h.ok) hK, h.bel hB h.hs hK, hK⟩
theorem newr_s {A : Option Addr} {c : Nat} (h : OpsR w A L) (hA : A = none → c = 0) (he : newE L = 0) (hB : Below B w0 w) (hs : B ≤ w.heap.size) :
    Calls Try.prog 38 #[.slice A L.length c] w fun e w' => ∃ g b, e = .returned (.tuple #[.pointer (some ⟨g, 0, none⟩), .int .i64 0]) ∧ StdR B w' g b L ∧ Below B w0 w' ∧ Below w.heap.size w w' ∧ w.heap.size ≤ g ∧ w.heap.size ≤ b :=
  (new_r A c L w h hA he).mono fun e w' ⟨g, b, h1, h2, h3, h4, h5, h6, h7⟩ => ⟨g, b, h1, ⟨h2, newE_ok L he, by omega, by omega, h5, h6⟩, below_lift hB h7 hs, h7, h3, h4⟩
theorem newbadr_s {A : Option Addr} {c : Nat} (hl : L.length ≤ 65536) (h : OpsR w A L) {v : Int} (hv : newE L = v) (he : v ≠ 0) (hB : Below B w0 w) (hs : B ≤ w.heap.size) :
    Calls Try.prog 38 #[.slice A L.length c] w fun e w' => e = .returned (.tuple #[.pointer none, .int .i64 v]) ∧ Below B w0 w' ∧ Below w.heap.size w w' :=
  (newbad_r A c L w hl h (by rw [hv]; exact he)).mono fun e w' ⟨h1, h7⟩ => ⟨by rw [h1, hv], below_lift hB h7 hs, h7⟩
end
end Go.Proofs.Ytomadlopljfcmaa
