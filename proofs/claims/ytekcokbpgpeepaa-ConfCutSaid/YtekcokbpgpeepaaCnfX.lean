/- Layer 5, plain: bytes that are cut. -/
import Derived.Test.YtekcokbpgpeepaaCnfV
namespace Go.Proofs.Ytekcokbpgpeepaa
set_option linter.unusedVariables false
open Go.RowKit

/-- Cut: what is left is less than the numbers that are still to come; or it was told. -/
def Cut (s : RS) (zs : List Int) : Prop := s.2 = 3 ∨ (s.2 = 0 ∧ ∃ k, k < (zs.flatMap enc).length ∧ s.1 = (zs.flatMap enc).take k)
theorem dead_S {s : RS} (h : s.2 = 3) : rdS s = s := if_neg (by omega)
theorem dead_N {s : RS} (h : s.2 = 3) : rdN s = 0 := if_neg (by omega)
theorem dead_At {s : RS} (h : s.2 = 3) : ∀ k, rdAt s k = s
  | 0 => rfl
  | k + 1 => by
    show rdS (rdAt s k) = s
    rw [dead_At h k, dead_S h]
theorem dead_cnt {s : RS} (h : s.2 = 3) : cntOf s = 0 := by
  unfold cntOf
  rw [dead_At h, dead_N h]
theorem dead_nxt {s : RS} (h : s.2 = 3) : nxt s = s := by
  unfold nxt
  rw [dead_At h, dead_At h]
theorem rd_cut {s : RS} {z : Int} {zs : List Int} (hz : okN z) (h : Cut s (z :: zs)) : ((rdS s).2 = 3 ∧ rdN s = 0) ∨ (rdN s = z ∧ Cut (rdS s) zs) := by
  rcases h with h | ⟨h0, k, hk, h1⟩
  · exact .inl ⟨by rw [dead_S h]; exact h, dead_N h⟩
  · obtain ⟨L, e⟩ := s
    simp only at h0 h1
    subst h0 h1
    rw [List.flatMap_cons] at hk ⊢
    rcases Nat.lt_or_ge k (enc z).length with hlt | hge
    · refine .inl ?_
      rw [List.take_append_of_le_length (by omega)]
      have hc := cut_enc hz hlt 9007199254740991
      have e1 : rdS ((enc z).take k, (0 : Int)) = (numL ((enc z).take k) 9007199254740991, numE ((enc z).take k) 9007199254740991) := if_pos rfl
      have e2 : rdN ((enc z).take k, (0 : Int)) = numV ((enc z).take k) 9007199254740991 := if_pos rfl
      rw [e1, e2]
      refine ⟨hc, if_neg (by rw [hc]; omega)⟩
    · rw [List.take_append, List.take_of_length_le hge]
      obtain ⟨h1, h2⟩ := rd_enc hz ((zs.flatMap enc).take (k - (enc z).length))
      refine .inr ⟨h1, ?_⟩
      rw [h2]
      rw [List.length_append] at hk
      exact .inr ⟨rfl, _, by omega, rfl⟩
theorem reads_cut : ∀ (ys : List Int) {s : RS} {zs : List Int}, (∀ y ∈ ys, okN y) → Cut s (ys ++ zs) → Cut (rdAt s ys.length) zs
  | [], s, zs, _, h => h
  | y :: ys, s, zs, hy, h => by
    have e : rdAt s (y :: ys).length = rdAt (rdS s) ys.length := by
      rw [List.length_cons, Nat.add_comm, rdAt_add]
      rfl
    rw [e]
    rcases rd_cut (hy y (by simp)) h with ⟨h1, _⟩ | ⟨_, h2⟩
    · exact .inl (by rw [dead_At h1]; exact h1)
    · exact reads_cut ys (fun x hx => hy x (by simp [hx])) h2
theorem cut_nil {s : RS} (h : Cut s []) : s.2 = 3 := by
  rcases h with h | ⟨_, k, hk, _⟩
  · exact h
  · simp at hk
theorem part_cut {p : CP} {s : RS} {zs : List Int} (hp : ∀ z ∈ partL p, okN z) (hl : p.ts.length ≤ 4) (h : Cut s (partL p ++ zs)) : Cut (nxt s) zs ∧ cntOf s ≤ 4 := by
  have m1 : okN p.per := hp _ (by simp [partL])
  have m2 : okN p.bud := hp _ (by simp [partL])
  have m3 : okN (p.ts.length : Int) := hp _ (by simp [partL])
  have e : partL p ++ zs = p.per :: (p.bud :: ((p.ts.length : Int) :: (p.ts.flatMap tL ++ zs))) := by simp [partL]
  rw [e] at h
  have dead : ∀ {j : Nat}, j ≤ 2 → (rdAt s (j + 1)).2 = 3 → (j = 2 → cntOf s = 0) → Cut (nxt s) zs ∧ cntOf s ≤ 4 := by
    intro j hj hd hc
    have h3 : rdAt s 3 = rdAt s (j + 1) := by
      rw [show 3 = (j + 1) + (2 - j) by omega, rdAt_add, dead_At hd]
    have hcn : cntOf s ≤ 4 := by
      rcases Nat.lt_or_ge j 2 with h2 | h2
      · have e2 : rdAt s 2 = rdAt s (j + 1) := by
          rw [show 2 = (j + 1) + (1 - j) by omega, rdAt_add, dead_At hd]
        unfold cntOf
        rw [e2, dead_N hd]
        omega
      · rw [hc (by omega)]
        omega
    refine ⟨.inl ?_, hcn⟩
    unfold nxt
    rw [h3, dead_At hd]
    exact hd
  rcases rd_cut m1 h with ⟨h1, _⟩ | ⟨_, h1⟩
  · exact dead (j := 0) (by omega) h1 (fun e => by omega)
  · rcases rd_cut m2 h1 with ⟨h2, _⟩ | ⟨_, h2⟩
    · exact dead (j := 1) (by omega) h2 (fun e => by omega)
    · rcases rd_cut m3 h2 with ⟨h3, hc⟩ | ⟨hc, h3⟩
      · exact dead (j := 2) (by omega) h3 (fun _ => hc)
      · have hc' : cntOf s = p.ts.length := hc
        refine ⟨?_, by rw [hc']; omega⟩
        unfold nxt
        rw [hc']
        have := reads_cut (p.ts.flatMap tL) (fun z hz => hp z (by unfold partL; exact List.mem_append_right _ hz)) h3
        rw [tl_len] at this
        exact this
theorem parts_cut : ∀ (ps : List CP) {s : RS} {zs : List Int}, (∀ p ∈ ps, ∀ z ∈ partL p, okN z) → (∀ p ∈ ps, p.ts.length ≤ 4) → Cut s (ps.flatMap partL ++ zs) → Cut (itr s ps.length) zs ∧ manyB s ps.length = false
  | [], s, zs, _, _, h => ⟨h, rfl⟩
  | p :: ps, s, zs, hp, hl, h => by
    rw [List.flatMap_cons, List.append_assoc] at h
    obtain ⟨h1, h2⟩ := part_cut (hp p (by simp)) (hl p (by simp)) h
    obtain ⟨h3, h4⟩ := parts_cut ps (fun q hq => hp q (by simp [hq])) (fun q hq => hl q (by simp [hq])) h1
    rw [List.length_cons, itr_front, manyB_front]
    refine ⟨h3, ?_⟩
    rw [h4]
    simp
    omega
theorem fin_cut {c : Cfg} {s : RS} (h : s.2 = 3) : fin c s = (3, noCfg) := by
  unfold fin
  have e : endE s.1 s.2 = 3 := by
    unfold endE
    rw [h, if_neg (by omega)]
  rw [e, if_neg (by omega)]
theorem cut_law {c : Cfg} (hc : checkB c = true) {k : Nat} (hk : k < (bytesL c).length) : readC ((bytesL c).take k) = (3, noCfg) := by
  have hm := may_of hc
  have hok : ∀ z ∈ nums c, okN z := fun z hz => by
    have := nums_ok hm z hz
    unfold okN
    omega
  have e : nums c = (c.ps.length : Int) :: (c.ps.flatMap partL ++ ((c.qs.length : Int) :: (c.qs.flatMap qL ++ []))) := by simp [nums]
  have m3 : ∀ p ∈ c.ps, ∀ z ∈ partL p, okN z := fun p hp z hz => hok z (by unfold nums; simp only [List.mem_append, List.mem_flatMap]; exact .inl (.inl (.inr ⟨p, hp, hz⟩)))
  have m4 : ∀ z ∈ c.qs.flatMap qL, okN z := fun z hz => hok z (by unfold nums; exact List.mem_append_right _ hz)
  have h0 : Cut ((bytesL c).take k, 0) (nums c) := .inr ⟨rfl, k, hk, rfl⟩
  rw [e] at h0
  have h4 := hm.p4
  have h8 := hm.q8
  unfold readC
  rcases rd_cut (hok _ (by rw [e]; simp)) h0 with ⟨h1, hn⟩ | ⟨hn, h1⟩
  · rw [hn, if_neg (by omega)]
    have ei : itr (rdS ((bytesL c).take k, 0)) (0 : Int).toNat = rdS ((bytesL c).take k, 0) := rfl
    rw [ei, dead_N h1, if_neg (by simp [manyB]), if_neg (by omega)]
    exact fin_cut (by rw [dead_S h1, dead_At h1]; exact h1)
  · rw [hn, if_neg (by omega), Int.toNat_natCast]
    obtain ⟨h2, h3⟩ := parts_cut c.ps m3 (fun p hp => (hm.pt p hp).2.2.1) h1
    rw [h3, if_neg (by simp)]
    rcases rd_cut (hok _ (by rw [e]; simp)) h2 with ⟨h5, hn5⟩ | ⟨hn5, h5⟩
    · rw [hn5, if_neg (by omega)]
      exact fin_cut (by rw [dead_At h5]; exact h5)
    · rw [hn5, if_neg (by omega), Int.toNat_natCast]
      have := reads_cut (c.qs.flatMap qL) m4 h5
      rw [ql_len] at this
      exact fin_cut (cut_nil this)
end Go.Proofs.Ytekcokbpgpeepaa
