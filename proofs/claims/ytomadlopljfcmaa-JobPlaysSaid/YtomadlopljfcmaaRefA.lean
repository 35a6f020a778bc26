/- The document's row in memory: Next, Did, Ran, Done, Left, Rest, New; Same. -/
import Derived.Test.YtomadlopljfcmaaRowS
import Derived.Test.YtomadlopljfcmaaActC2
namespace Go.Proofs.Ytomadlopljfcmaa
set_option linter.unusedVariables false
open Go.RowKit

/-- The document's row: the struct lies in block g, the acts in block b. -/
def RowR (w : World) (g b : Nat) (L : List OpV) : Prop :=
  ∃ A c off, Blk w g 77 #[.slice A L.length c] ∧ L.length ≤ c ∧ (L ≠ [] → A = some ⟨b, off, none⟩ ∧ OpsIn w b off L) ∧ (A = none → c = 0)
theorem RowR.keep {w w' : World} {g b : Nat} {L : List OpV} (h : RowR w g b L) (hg : w'.heap[g]? = w.heap[g]?) (hb : w'.heap[b]? = w.heap[b]?) : RowR w' g b L := by
  obtain ⟨A, c, off, h1, h2, h3, h0⟩ := h
  exact ⟨A, c, off, hg.trans h1, h2, fun hL => ⟨(h3 hL).1, (h3 hL).2.keep hb⟩, h0⟩
def didER : List OpV → Int
  | [] => 250
  | x :: _ => if x.k = 1 then 250 else 0
theorem RowR.tail {w : World} {g b : Nat} {x : OpV} {L : List OpV} {A : Option Addr} {c off : Nat} (h1 : Blk w g 77 #[.slice A (x :: L).length c]) (h2 : (x :: L).length ≤ c) (h3 : OpsIn w b off (x :: L)) :
    RowR (w.setCell ⟨g, 0, none⟩ (.slice (if c = 1 then some ⟨b, off, none⟩ else some ⟨b, off + 3, none⟩) ((x :: L).length - 1) (c - 1))) g b L := by
  have hne : b ≠ g := by
    obtain ⟨⟨C, hC⟩, _⟩ := h3
    exact Blk.ne_ hC h1 (by decide)
  have hb := Blk.set_ h1 0 (.slice (if c = 1 then some ⟨b, off, none⟩ else some ⟨b, off + 3, none⟩) ((x :: L).length - 1) (c - 1))
  refine ⟨_, c - 1, off + 3, hb, by simp at h2; omega, fun hL => ⟨?_, ?_⟩, fun h => by split at h <;> cases h⟩
  · have : c ≠ 1 := by
      cases L with
      | nil => exact absurd rfl hL
      | cons y L => simp at h2; omega
    rw [if_neg this]
  · have hk : OpsIn (w.setCell ⟨g, 0, none⟩ (.slice (if c = 1 then some ⟨b, off, none⟩ else some ⟨b, off + 3, none⟩) ((x :: L).length - 1) (c - 1))) b off (x :: L) :=
      h3.keep (Below.heap_setCell w _ _ b hne)
    refine ⟨hk.1, fun i y hi => ?_⟩
    have := hk.2 (i + 1) y (list_tail_at hi)
    rwa [show off + (i + 1) * 3 = off + 3 + i * 3 by omega] at this
theorem next_r (g b : Nat) (L : List OpV) (w : World) (h : RowR w g b L) :
    Calls Try.prog 55 #[.pointer (some ⟨g, 0, none⟩)] w fun e w' => e = .returned (.tuple #[opV (headOf L), .bool (!L.isEmpty)]) ∧ Below w.heap.size w w' := by
  obtain ⟨A, c, off, h1, h2, h3, h0⟩ := h
  have c0 := (h1.cell 0).trans (show _ = some (.slice A L.length c) from rfl)
  have hgl := h1.lt
  cases L with
  | nil =>
    clear h0 h1 h2 h3
    go_enter Try.func55, Try.ntmps55
    go_wp2
    refine bodyPost_ret (v := .tuple #[opV emptyOp, .bool false]) (by simp [results, Try.results55, go_sem, opV, emptyOp] <;> rfl) rfl ⟨rfl, ?_⟩
    exact (Below.refl _ _).alloc (Nat.le_refl _) _
  | cons x L =>
    obtain ⟨rfl, h4⟩ := h3 (by simp)
    have hx := h4.2 0 x rfl
    simp only [Nat.zero_mul, Nat.add_zero] at hx
    obtain ⟨o0, o1, o2⟩ := hx
    have hbl := lt_of_cell0 o0
    have hne : ((((x :: L).length : Nat) : Int) == 0) = false := by simp; omega
    have hpos : (0 : Int) < ((x :: L).length : Nat) := by simp <;> omega
    clear h0 h1 h2 h3 h4
    go_enter Try.func55, Try.ntmps55
    go_wp2
    refine bodyPost_ret (v := .tuple #[opV x, .bool true]) (by simp [results, Try.results55, go_sem, opV] <;> rfl) rfl ⟨rfl, ?_⟩
    exact (Below.refl _ _).alloc (Nat.le_refl _) _
theorem did_r (g b : Nat) (L : List OpV) (w : World) (h : RowR w g b L) (hl : L.length ≤ 32) :
    Calls Try.prog 41 #[.pointer (some ⟨g, 0, none⟩)] w fun e w' => e = .returned (.int .i64 (didE L)) ∧ RowR w' g b (didL L) ∧ Keeps (two g b) w w' := by
  have H := Lib.hid h
  obtain ⟨A, c, off, h1, h2, h3, h0⟩ := h
  have c0 := (h1.cell 0).trans (show _ = some (.slice A L.length c) from rfl)
  have fr := h1.frozen 0
  cases L with
  | nil =>
    clear h0 h1 h2 h3
    go_enter Try.func41, Try.ntmps41
    go_wp2
    go_ret
    exact ⟨rfl, H.out, Keeps.refl _ _⟩
  | cons x L =>
    obtain ⟨rfl, h4⟩ := h3 (by simp)
    have o0 := (h4.2 0 x rfl).1
    simp only [Nat.zero_mul, Nat.add_zero] at o0
    have HT := Lib.hid (RowR.tail h1 h2 h4)
    clear h0 h1 h3 h4
    have hne : ((((x :: L).length : Nat) : Int) == 0) = false := by simp; omega
    have hpos : (0 : Int) < ((x :: L).length : Nat) := by simp <;> omega
    have hpos1 : (1 : Int) ≤ ((x :: L).length : Nat) := by simp <;> omega
    have hc' : (((x :: L).length : Nat) : Int) ≤ c := by omega
    by_cases hk : x.k = 1
    · have hkb : (x.k == 1) = true := by simp [hk]
      have D1 : Hid (didE (x :: L) = 250) := if_pos hk
      have D2 : Hid (didL (x :: L) = x :: L) := if_pos hk
      clear hk
      go_enter Try.func41, Try.ntmps41
      go_wp2
      go_ret
      exact ⟨ret_int D1.out.symm, by rw [D2.out]; exact H.out, Keeps.refl _ _⟩
    · have hkb : (x.k == 1) = false := by simp [hk]
      have D1 : Hid (didE (x :: L) = 0) := if_neg hk
      have D2 : Hid (didL (x :: L) = L) := if_neg hk
      clear hk
      go_enter Try.func41, Try.ntmps41
      go_wp2
      all_goals go_ret
      all_goals have HT' := HT.out
      · rename_i h
        subst h
        rw [if_pos rfl] at HT'
        exact ⟨ret_int D1.out.symm, by rw [D2.out]; exact HT', (Keeps.refl _ _).setCell (.inl (.inl rfl)) _⟩
      · rename_i h
        rw [if_neg h] at HT'
        exact ⟨ret_int D1.out.symm, by rw [D2.out]; exact HT', (Keeps.refl _ _).setCell (.inl (.inl rfl)) _⟩
end Go.Proofs.Ytomadlopljfcmaa
