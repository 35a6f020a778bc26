/- The document's row: Ran. -/
import Derived.Test.YtomadlopljfcmaaRefA
namespace Go.Proofs.Ytomadlopljfcmaa
set_option linter.unusedVariables false
open Go.RowKit

def put3 (w : World) (b off : Nat) (y : OpV) : World := ((w.setCell ⟨b, off, none⟩ (.int .i64 y.k)).setCell ⟨b, off + 1, none⟩ (.int .i64 y.n)).setCell ⟨b, off + 2, none⟩ (.string y.s)
theorem OpsIn.put3 {w : World} {b off : Nat} {x : OpV} {L : List OpV} (h : OpsIn w b off (x :: L)) (y : OpV) : OpsIn (put3 w b off y) b off (y :: L) := by
  obtain ⟨⟨C, hC⟩, h5⟩ := h
  refine ⟨⟨_, ((hC.set_ _ _).set_ _ _).set_ _ _⟩, fun i z hi => ?_⟩
  have hx := h5 0 x rfl
  simp only [Nat.zero_mul, Nat.add_zero] at hx
  unfold Go.Proofs.Ytomadlopljfcmaa.put3
  cases i with
  | zero =>
    simp only [List.getElem?_cons_zero, Option.some.injEq] at hi
    subst hi
    simp only [Nat.zero_mul, Nat.add_zero]
    refine ⟨?_, ?_, ?_⟩
    · rw [World.cell?_setCell_other _ _ _ _ (by simp), World.cell?_setCell_other _ _ _ _ (by simp)]; exact World.cell?_setCell_same _ _ _ hx.1
    · rw [World.cell?_setCell_other _ _ _ _ (by simp)]
      exact World.cell?_setCell_same _ _ _ ((World.cell?_setCell_other _ _ _ _ (by simp)).trans hx.2.1)
    · exact World.cell?_setCell_same _ _ _ (((World.cell?_setCell_other _ _ _ _ (by simp)).trans (World.cell?_setCell_other _ _ _ _ (by simp))).trans hx.2.2)
  | succ i =>
    have hy := h5 (i + 1) z (by simpa using hi)
    refine ⟨?_, ?_, ?_⟩
    · rw [World.cell?_setCell_other _ _ _ _ (by simp <;> omega), World.cell?_setCell_other _ _ _ _ (by simp <;> omega), World.cell?_setCell_other _ _ _ _ (by simp <;> omega)]; exact hy.1
    · rw [World.cell?_setCell_other _ _ _ _ (by simp <;> omega), World.cell?_setCell_other _ _ _ _ (by simp <;> omega), World.cell?_setCell_other _ _ _ _ (by simp <;> omega)]; exact hy.2.1
    · rw [World.cell?_setCell_other _ _ _ _ (by simp <;> omega), World.cell?_setCell_other _ _ _ _ (by simp <;> omega), World.cell?_setCell_other _ _ _ _ (by simp <;> omega)]; exact hy.2.2
theorem Blk.put3 {w : World} {g b off : Nat} {t : TypeId} {cs : Array Value} (h : Blk w g t cs) (hb : b ≠ g) (y : OpV) : Blk (put3 w b off y) g t cs :=
  ((h.far (p := ⟨b, off, none⟩) (fun e => hb e.symm) _).far (p := ⟨b, off + 1, none⟩) (fun e => hb e.symm) _).far (p := ⟨b, off + 2, none⟩) (fun e => hb e.symm) _
theorem RowR.alloc {w : World} {g b : Nat} {L : List OpV} (h : RowR w g b L) (hg : g < w.heap.size) (hb : b < w.heap.size) (o : Obj) : RowR (w.alloc o) g b L :=
  h.keep (Below.heap_alloc _ _ _ hg) (Below.heap_alloc _ _ _ hb)
theorem RowR.drew {w : World} {g b : Nat} {L : List OpV} (h : RowR w g b L) : RowR w.drew g b L := h
theorem keeps_put3 {g b off : Nat} {a w : World} (h : Keeps (two g b) a w) (y : OpV) : Keeps (two g b) a (put3 w b off y) :=
  ((h.setCell (.inl (.inr rfl)) _).setCell (.inl (.inr rfl)) _).setCell (.inl (.inr rfl)) _
set_option maxHeartbeats 400000 in
theorem ran_r (g b : Nat) (L : List OpV) (w : World) (h : RowR w g b L) (hok : OkRow L) :
    Calls Try.prog 42 #[.pointer (some ⟨g, 0, none⟩)] w fun e w' => e = .returned (.int .i64 (ranE L)) ∧ RowR w' g b (ranL L) ∧ Keeps (two g b) w w' := by
  have H := Lib.hid h
  have HK := Lib.hid hok
  obtain ⟨A, c, off, h1, h2, h3, h0⟩ := h
  have c0 := (h1.cell 0).trans (show _ = some (.slice A L.length c) from rfl)
  have fr := h1.frozen 0
  cases L with
  | nil =>
    clear h0 h1 h2 h3 hok
    go_enter Try.func42, Try.ntmps42
    go_wp2
    go_ret
    exact ⟨rfl, H.out, Keeps.refl _ _⟩
  | cons x L =>
    obtain ⟨rfl, h4⟩ := h3 (by simp)
    have hx := h4.2 0 x rfl
    simp only [Nat.zero_mul, Nat.add_zero] at hx
    obtain ⟨o0, o1, o2⟩ := hx
    have hne : ((((x :: L).length : Nat) : Int) == 0) = false := by simp; omega
    have hpos : (0 : Int) < ((x :: L).length : Nat) := by simp <;> omega
    have hpos1 : (1 : Int) ≤ ((x :: L).length : Nat) := by simp <;> omega
    have hc' : (((x :: L).length : Nat) : Int) ≤ c := by omega
    have hgl := h1.lt
    obtain ⟨⟨C, hC⟩, _⟩ := id h4
    have hbl := hC.lt
    have hbg : b ≠ g := Blk.ne_ hC h1 (by decide)
    have f0 := hC.frozen off
    have f1 := hC.frozen (off + 1)
    have f2 := hC.frozen (off + 2)
    have hP1 := h1.put3 (off := off) hbg { x with n := x.n - 1 }
    have hP4 := h4.put3 { x with n := x.n - 1 }
    have hT := RowR.tail (x := { x with n := x.n - 1 }) hP1 h2 hP4
    have HT1 : Hid (c = 1 → RowR ((((w.setCell ⟨b, off, none⟩ (.int .i64 x.k)).setCell ⟨b, off + 1, none⟩ (.int .i64 (x.n - 1))).setCell ⟨b, off + 2, none⟩ (.string x.s)).setCell ⟨g, 0, none⟩ (.slice (some ⟨b, off, none⟩) L.length 0)) g b L) := fun e => by
      subst e; rw [if_pos rfl] at hT; exact hT
    have HT2 : Hid (c ≠ 1 → RowR ((((w.setCell ⟨b, off, none⟩ (.int .i64 x.k)).setCell ⟨b, off + 1, none⟩ (.int .i64 (x.n - 1))).setCell ⟨b, off + 2, none⟩ (.string x.s)).setCell ⟨g, 0, none⟩ (.slice (some ⟨b, off + 3, none⟩) L.length (c - 1))) g b L) := fun e => by
      rw [if_neg e] at hT; exact hT
    have HL : Hid (RowR (((w.setCell ⟨b, off, none⟩ (.int .i64 x.k)).setCell ⟨b, off + 1, none⟩ (.int .i64 (x.n - 1))).setCell ⟨b, off + 2, none⟩ (.string x.s)) g b ({ x with n := x.n - 1 } :: L)) := ⟨_, c, off, hP1, h2, fun _ => ⟨rfl, hP4⟩, fun h => by cases h⟩
    have HKP : Hid (Keeps (two g b) w (((w.setCell ⟨b, off, none⟩ (.int .i64 x.k)).setCell ⟨b, off + 1, none⟩ (.int .i64 (x.n - 1))).setCell ⟨b, off + 2, none⟩ (.string x.s))) := keeps_put3 (off := off) (Keeps.refl (two g b) w) { x with n := x.n - 1 }
    have hga : ∀ p v, g < ((((w.setCell ⟨b, off, none⟩ (.int .i64 x.k)).setCell ⟨b, off + 1, none⟩ (.int .i64 (x.n - 1))).setCell ⟨b, off + 2, none⟩ (.string x.s)).setCell p v).heap.size := fun p v => by simpa [World.setCell] using hgl
    have hba : ∀ p v, b < ((((w.setCell ⟨b, off, none⟩ (.int .i64 x.k)).setCell ⟨b, off + 1, none⟩ (.int .i64 (x.n - 1))).setCell ⟨b, off + 2, none⟩ (.string x.s)).setCell p v).heap.size := fun p v => by simpa [World.setCell] using hbl
    have hgs : g < (((w.setCell ⟨b, off, none⟩ (.int .i64 x.k)).setCell ⟨b, off + 1, none⟩ (.int .i64 (x.n - 1))).setCell ⟨b, off + 2, none⟩ (.string x.s)).heap.size := by simpa [World.setCell] using hgl
    have hbs : b < (((w.setCell ⟨b, off, none⟩ (.int .i64 x.k)).setCell ⟨b, off + 1, none⟩ (.int .i64 (x.n - 1))).setCell ⟨b, off + 2, none⟩ (.string x.s)).heap.size := by simpa [World.setCell] using hbl
    have HG := Lib.hid (And.intro hga (And.intro hba (And.intro hgs hbs)))
    clear hT hga hba hgs hbs
    clear h0 h1 h2 h3 h4 hC hP1 hP4
    by_cases hk : x.k = 1
    · have hr := ok_run x hok.head hk
      have hkb : (x.k != 1) = false := by simp [hk]
      have hw : wrap64 (x.n - 1) = x.n - 1 := IntWalk.wrap64_in _ (by omega)
      have D1 : Hid (ranE (x :: L) = 0) := if_pos hk
      by_cases hz : x.n - 1 = 0
      · have D2 : Hid (ranL (x :: L) = L) := by show ranL (x :: L) = L; simp only [ranL]; rw [if_pos hk, if_pos hz]
        have hzb : (x.n - 1 == 0) = true := by simp [hz]
        have hn1 : (x.n == 1) = true := by simp; omega
        clear hok hk hz
        go_enter Try.func42, Try.ntmps42
        go_wp2_with fail
        go_region
        all_goals go_wp2
        all_goals go_ret
        · rename_i h
          exact ⟨ret_int D1.out.symm, by rw [D2.out]; exact ((HT1.out h).alloc (HG.out.1 _ _) (HG.out.2.1 _ _) _).drew, ((HKP.out.setCell (.inl (.inl rfl)) _).alloc _).drew⟩
        · rename_i h
          exact ⟨ret_int D1.out.symm, by rw [D2.out]; exact ((HT2.out h).alloc (HG.out.1 _ _) (HG.out.2.1 _ _) _).drew, ((HKP.out.setCell (.inl (.inl rfl)) _).alloc _).drew⟩
      · have D2 : Hid (ranL (x :: L) = { x with n := x.n - 1 } :: L) := by show ranL (x :: L) = _; simp only [ranL]; rw [if_pos hk, if_neg hz]
        have hzb : (x.n - 1 == 0) = false := by simp [hz]
        have hn1 : (x.n == 1) = false := by simp; omega
        clear hok hk hz
        go_enter Try.func42, Try.ntmps42
        go_wp2_with fail
        go_region
        all_goals go_wp2
        all_goals go_ret
        exact ⟨ret_int D1.out.symm, by rw [D2.out]; exact (HL.out.alloc HG.out.2.2.1 HG.out.2.2.2 _).drew, (HKP.out.alloc _).drew⟩
    · have hkb : (x.k != 1) = true := by simp [hk]
      have D1 : Hid (ranE (x :: L) = 250) := if_neg hk
      have D2 : Hid (ranL (x :: L) = x :: L) := if_neg hk
      clear hk hok o1 o2
      go_enter Try.func42, Try.ntmps42
      go_wp2
      go_ret
      exact ⟨ret_int D1.out.symm, by rw [D2.out]; exact H.out, Keeps.refl _ _⟩
end Go.Proofs.Ytomadlopljfcmaa
