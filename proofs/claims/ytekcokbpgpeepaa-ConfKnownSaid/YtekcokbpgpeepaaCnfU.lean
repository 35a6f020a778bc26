/- Layer 5, plain: what can be read has just these bytes. -/
import Derived.Test.YtekcokbpgpeepaaCnfM
namespace Go.Proofs.Ytekcokbpgpeepaa
set_option linter.unusedVariables false
open Go.RowKit

def readsL (s : RS) (k : Nat) : List Int := (List.range k).map fun i => rdN (rdAt s i)
theorem readsL_succ (s : RS) (k : Nat) : readsL s (k + 1) = readsL s k ++ [rdN (rdAt s k)] := by simp [readsL, List.range_succ]
theorem readsL_add (s : RS) (a : Nat) : ∀ b, readsL s (a + b) = readsL s a ++ readsL (rdAt s a) b
  | 0 => by simp [readsL]
  | b + 1 => by
    show readsL s (a + b + 1) = _
    rw [readsL_succ, readsL_add s a b, readsL_succ, rdAt_add, List.append_assoc]
theorem rd_ok {s : RS} (h : (rdS s).2 = 0) : s.2 = 0 ∧ s.1 = enc (rdN s) ++ (rdS s).1 := by
  by_cases h0 : s.2 = 0
  · refine ⟨h0, ?_⟩
    have e1 : rdS s = (numL s.1 9007199254740991, numE s.1 9007199254740991) := if_pos h0
    have e2 : rdN s = numV s.1 9007199254740991 := if_pos h0
    rw [e1] at h
    have h' : numE s.1 9007199254740991 = 0 := h
    have e3 : numV s.1 9007199254740991 = numN s.1 := if_pos h'
    have e4 : numL s.1 9007199254740991 = s.1.drop (numS s.1) := if_pos h'
    rw [e1, e2, e3, enc_dec s.1 _ h']
    show s.1 = _ ++ numL s.1 _
    rw [e4, List.take_append_drop]
  · have e1 : rdS s = s := if_neg h0
    rw [e1] at h
    exact absurd h h0
theorem reads_ok {s : RS} : ∀ {k : Nat}, (rdAt s k).2 = 0 → s.2 = 0 ∧ s.1 = (readsL s k).flatMap enc ++ (rdAt s k).1
  | 0, h => ⟨h, by simp [readsL, rdAt]⟩
  | k + 1, h => by
    obtain ⟨h1, h2⟩ := rd_ok (s := rdAt s k) h
    obtain ⟨h3, h4⟩ := reads_ok h1
    refine ⟨h3, ?_⟩
    rw [readsL_succ, List.flatMap_append]
    simp only [List.flatMap_cons, List.flatMap_nil, List.append_nil, List.append_assoc]
    rw [show rdAt s (k + 1) = rdS (rdAt s k) from rfl, ← h2]
    exact h4
theorem tks_reads (s : RS) : ∀ j, (tksOf s j).flatMap tL = readsL s (8 * j)
  | 0 => by simp [tksOf, readsL]
  | j + 1 => by
    rw [tksOf_succ, List.flatMap_append, tks_reads s j, show 8 * (j + 1) = 8 * j + 8 by omega, readsL_add]
    congr 1
theorem pts_reads (s : RS) : ∀ j, (portsOf s j).flatMap qL = readsL s (6 * j)
  | 0 => by simp [portsOf, readsL]
  | j + 1 => by
    rw [portsOf_succ, List.flatMap_append, pts_reads s j, show 6 * (j + 1) = 6 * j + 6 by omega, readsL_add]
    congr 1
theorem part_reads (s : RS) : partL (partOf s) = readsL s (3 + 8 * (cntOf s).toNat) := by
  have hc := (rdN_in (rdAt s 2)).1
  rw [readsL_add, ← tks_reads]
  have e : (partOf s).ts = tksOf (rdAt s 3) (cntOf s).toNat := rfl
  have e2 : ((tksOf (rdAt s 3) (cntOf s).toNat).length : Int) = rdN (rdAt s 2) := by
    rw [tksOf_len]
    exact Int.toNat_of_nonneg hc
  unfold partL
  rw [e, e2]
  rfl
theorem parts_ok {s : RS} : ∀ {n : Nat}, (itr s n).2 = 0 → s.2 = 0 ∧ s.1 = ((partsOf s n).flatMap partL).flatMap enc ++ (itr s n).1
  | 0, h => ⟨h, by simp [partsOf, itr]⟩
  | n + 1, h => by
    have e : itr s (n + 1) = rdAt (itr s n) (3 + 8 * (cntOf (itr s n)).toNat) := by
      show nxt (itr s n) = _
      unfold nxt
      rw [rdAt_add]
    rw [e] at h ⊢
    obtain ⟨h1, h2⟩ := reads_ok h
    obtain ⟨h3, h4⟩ := parts_ok h1
    refine ⟨h3, ?_⟩
    rw [partsOf_succ, List.flatMap_append, List.flatMap_append]
    simp only [List.flatMap_cons, List.flatMap_nil, List.append_nil, List.append_assoc]
    rw [part_reads, ← h2]
    exact h4
theorem fin_ok {c : Cfg} {s : RS} {cf : Cfg} (h : fin c s = (0, cf)) : s.2 = 0 ∧ s.1 = [] ∧ checkB c = true ∧ cf = c := by
  unfold fin at h
  split at h
  · next he =>
    split at h
    · next hc =>
      simp only [Prod.mk.injEq, true_and] at h
      unfold endE at he
      split at he
      · omega
      · next hn =>
        refine ⟨he, ?_, hc, h.symm⟩
        rcases hl : s.1 with _ | ⟨x, R⟩
        · rfl
        · exact absurd ⟨he, by rw [hl]; simp⟩ hn
    · simp at h
  · next he =>
    simp only [Prod.mk.injEq] at h
    exact absurd h.1 he
theorem again_law {L : List UInt8} {c : Cfg} (h : readC L = (0, c)) : checkB c = true ∧ bytesL c = L := by
  unfold readC at h
  split at h
  · simp at h
  · split at h
    · simp at h
    · split at h
      · simp at h
      · obtain ⟨h1, h2, h3, rfl⟩ := fin_ok h
        refine ⟨h3, ?_⟩
        have hn := (rdN_in (L, 0)).1
        obtain ⟨N, hN⟩ : ∃ N : Nat, rdN (L, 0) = (N : Int) := ⟨_, (Int.toNat_of_nonneg hn).symm⟩
        rw [hN] at h1 h2 ⊢
        simp only [Int.toNat_natCast] at h1 h2 ⊢
        obtain ⟨M, hM⟩ : ∃ M : Nat, rdN (itr (rdS (L, 0)) N) = (M : Int) := ⟨_, (Int.toNat_of_nonneg (rdN_in _).1).symm⟩
        rw [hM] at h1 h2 ⊢
        simp only [Int.toNat_natCast] at h1 h2 ⊢
        obtain ⟨k1, k2⟩ := reads_ok h1
        obtain ⟨k3, k4⟩ := rd_ok k1
        obtain ⟨k5, k6⟩ := parts_ok k3
        obtain ⟨k7, k8⟩ := rd_ok k5
        rw [h2, List.append_nil, ← pts_reads] at k2
        rw [hM, k2] at k4
        rw [k4] at k6
        rw [hN, k6] at k8
        show (nums _).flatMap enc = L
        unfold nums
        simp only [partsOf_len, portsOf_len, List.flatMap_append, List.flatMap_cons, List.flatMap_nil, List.append_nil, List.append_assoc]
        exact k8.symm
/-- What is wrong with bytes. -/
def okE (z : Int) : Prop := z = 0 ∨ z = 3 ∨ z = 4
theorem rdS_e {s : RS} (h : okE s.2) : okE (rdS s).2 := by
  unfold rdS
  split
  · exact numE_max _
  · exact h
theorem rdAt_e {s : RS} (h : okE s.2) : ∀ k, okE (rdAt s k).2
  | 0 => h
  | k + 1 => rdS_e (rdAt_e h k)
theorem itr_e {s : RS} (h : okE s.2) : ∀ k, okE (itr s k).2
  | 0 => h
  | k + 1 => rdAt_e (rdAt_e (itr_e h k) 3) _
theorem fin_e {c : Cfg} {s : RS} (h : okE s.2) : (fin c s).1 = 0 ∨ ((fin c s).2 = noCfg ∧ ((fin c s).1 = 3 ∨ (fin c s).1 = 4 ∨ (fin c s).1 = 50)) := by
  unfold fin
  split
  · split
    · exact .inl rfl
    · exact .inr ⟨rfl, .inr (.inr rfl)⟩
  · next he =>
    refine .inr ⟨rfl, ?_⟩
    show endE s.1 s.2 = 3 ∨ endE s.1 s.2 = 4 ∨ endE s.1 s.2 = 50
    unfold endE at he ⊢
    split
    · exact .inr (.inl rfl)
    · next hn =>
      rw [if_neg hn] at he
      rcases h with h | h | h
      · exact absurd h he
      · exact .inl h
      · exact .inr (.inl h)
theorem readC_e (L : List UInt8) : (readC L).1 = 0 ∨ ((readC L).2 = noCfg ∧ ((readC L).1 = 3 ∨ (readC L).1 = 4 ∨ (readC L).1 = 50)) := by
  have h5 : (50, noCfg).1 = (0 : Int) ∨ ((50, noCfg).2 = noCfg ∧ ((50, noCfg).1 = (3 : Int) ∨ (50, noCfg).1 = (4 : Int) ∨ (50, noCfg).1 = (50 : Int))) := .inr ⟨rfl, .inr (.inr rfl)⟩
  unfold readC
  split
  · exact h5
  · split
    · exact h5
    · split
      · exact h5
      · exact fin_e (rdAt_e (rdS_e (itr_e (rdS_e (.inl rfl)) _)) _)
end Go.Proofs.Ytekcokbpgpeepaa
