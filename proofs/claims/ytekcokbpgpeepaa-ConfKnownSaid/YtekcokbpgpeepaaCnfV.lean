/- Layer 5, plain: what was written is read as it was. -/
import Derived.Test.YtekcokbpgpeepaaCnfU
import Derived.Test.YtekcokbpgpeepaaCnfO2
namespace Go.Proofs.Ytekcokbpgpeepaa
set_option linter.unusedVariables false
open Go.RowKit

theorem rd_enc {z : Int} (h : okN z) (T : List UInt8) : rdN (enc z ++ T, 0) = z ∧ rdS (enc z ++ T, 0) = (T, 0) := by
  obtain ⟨h1, h2, h3⟩ := dec_enc h T (most := 9007199254740991) h.2
  have e1 : rdN (enc z ++ T, 0) = numV (enc z ++ T) 9007199254740991 := if_pos rfl
  have e2 : rdS (enc z ++ T, 0) = (numL (enc z ++ T) 9007199254740991, numE (enc z ++ T) 9007199254740991) := if_pos rfl
  have e3 : numV (enc z ++ T) 9007199254740991 = numN (enc z ++ T) := if_pos h1
  have e4 : numL (enc z ++ T) 9007199254740991 = (enc z ++ T).drop (numS (enc z ++ T)) := if_pos h1
  rw [e1, e2, e3, e4, h1, h2, h3, List.drop_left]
  exact ⟨rfl, rfl⟩
theorem reads_enc (T : List UInt8) : ∀ (zs : List Int), (∀ z ∈ zs, okN z) → readsL (zs.flatMap enc ++ T, 0) zs.length = zs ∧ rdAt (zs.flatMap enc ++ T, 0) zs.length = (T, 0)
  | [], _ => ⟨rfl, rfl⟩
  | z :: zs, h => by
    obtain ⟨h1, h2⟩ := rd_enc (h z (by simp)) (zs.flatMap enc ++ T)
    obtain ⟨h3, h4⟩ := reads_enc T zs fun y hy => h y (by simp [hy])
    have e : (z :: zs).flatMap enc ++ T = enc z ++ (zs.flatMap enc ++ T) := by simp
    have ea : rdAt (enc z ++ (zs.flatMap enc ++ T), (0 : Int)) 1 = (zs.flatMap enc ++ T, 0) := h2
    rw [e, List.length_cons, Nat.add_comm, readsL_add, rdAt_add, ea, h3, h4]
    refine ⟨?_, rfl⟩
    show [rdN (rdAt (enc z ++ (zs.flatMap enc ++ T), 0) 0)] ++ zs = z :: zs
    rw [show rdAt (enc z ++ (zs.flatMap enc ++ T), (0 : Int)) 0 = (enc z ++ (zs.flatMap enc ++ T), 0) from rfl, h1]
    rfl
theorem tl_inj : ∀ (A B : List TV), A.length = B.length → A.flatMap tL = B.flatMap tL → A = B
  | [], [], _, _ => rfl
  | [], b :: B, h, _ => by simp at h
  | a :: A, [], h, _ => by simp at h
  | a :: A, b :: B, hl, h => by
    rw [List.flatMap_cons, List.flatMap_cons] at h
    obtain ⟨h1, h2⟩ := List.append_inj h rfl
    have hab : a = b := by
      cases a
      cases b
      simpa [tL] using h1
    rw [hab, tl_inj A B (by simpa using hl) h2]
theorem ql_inj : ∀ (A B : List PV), A.length = B.length → A.flatMap qL = B.flatMap qL → A = B
  | [], [], _, _ => rfl
  | [], b :: B, h, _ => by simp at h
  | a :: A, [], h, _ => by simp at h
  | a :: A, b :: B, hl, h => by
    rw [List.flatMap_cons, List.flatMap_cons] at h
    obtain ⟨h1, h2⟩ := List.append_inj h rfl
    have hab : a = b := by
      cases a
      cases b
      simpa [qL] using h1
    rw [hab, ql_inj A B (by simpa using hl) h2]
theorem tl_len (A : List TV) : (A.flatMap tL).length = 8 * A.length := by
  induction A with
  | nil => rfl
  | cons a A ih => rw [List.flatMap_cons, List.length_append, ih, List.length_cons]; simp [tL]; omega
theorem ql_len (A : List PV) : (A.flatMap qL).length = 6 * A.length := by
  induction A with
  | nil => rfl
  | cons a A ih => rw [List.flatMap_cons, List.length_append, ih, List.length_cons]; simp [qL]; omega
theorem part_enc {p : CP} (T : List UInt8) (h : ∀ z ∈ partL p, okN z) : partOf ((partL p).flatMap enc ++ T, 0) = p ∧ nxt ((partL p).flatMap enc ++ T, 0) = (T, 0) ∧ cntOf ((partL p).flatMap enc ++ T, 0) = p.ts.length := by
  have e : (partL p).flatMap enc ++ T = [p.per, p.bud, (p.ts.length : Int)].flatMap enc ++ ((p.ts.flatMap tL).flatMap enc ++ T) := by
    unfold partL
    rw [List.flatMap_append, List.append_assoc]
  obtain ⟨h1, h2⟩ := reads_enc ((p.ts.flatMap tL).flatMap enc ++ T) [p.per, p.bud, (p.ts.length : Int)] fun z hz => h z (by unfold partL; exact List.mem_append_left _ hz)
  obtain ⟨h3, h4⟩ := reads_enc T (p.ts.flatMap tL) fun z hz => h z (by unfold partL; exact List.mem_append_right _ hz)
  rw [e]
  generalize hs : ([p.per, p.bud, (p.ts.length : Int)].flatMap enc ++ ((p.ts.flatMap tL).flatMap enc ++ T), (0 : Int)) = s at *
  have h2' : rdAt s 3 = ((p.ts.flatMap tL).flatMap enc ++ T, 0) := h2
  have h1' : [rdN s, rdN (rdAt s 1), rdN (rdAt s 2)] = [p.per, p.bud, (p.ts.length : Int)] := h1
  simp only [List.cons.injEq, and_true] at h1'
  obtain ⟨k1, k2, k3⟩ := h1'
  have hc : cntOf s = p.ts.length := k3
  rw [tl_len] at h3 h4
  refine ⟨?_, ?_, hc⟩
  · have ht : (partOf s).ts = p.ts := by
      rw [part_ts hc, h2']
      exact tl_inj _ _ (tksOf_len _ _) ((tks_reads _ _).trans h3)
    have e1 : (partOf s).per = p.per := k1
    have e2 : (partOf s).bud = p.bud := k2
    cases p
    simp only at ht e1 e2
    rw [← ht, ← e1, ← e2]
  · unfold nxt
    rw [hc, h2']
    exact h4
theorem itr_front (s : RS) : ∀ k, itr s (k + 1) = itr (nxt s) k
  | 0 => rfl
  | k + 1 => by
    show nxt (itr s (k + 1)) = nxt (itr (nxt s) k)
    rw [itr_front s k]
theorem partsOf_front (s : RS) (k : Nat) : partsOf s (k + 1) = partOf s :: partsOf (nxt s) k := by
  unfold partsOf
  rw [List.range_succ_eq_map, List.map_cons, List.map_map]
  congr 1
  refine List.map_congr_left fun i _ => ?_
  show partOf (itr s (i + 1)) = _
  rw [itr_front]
theorem manyB_front (s : RS) (k : Nat) : manyB s (k + 1) = (decide (4 < cntOf s) || manyB (nxt s) k) := by
  unfold manyB
  rw [List.range_succ_eq_map, List.any_cons, List.any_map]
  congr 1
  congr 1
  funext i
  show decide (4 < cntOf (itr s (i + 1))) = _
  rw [itr_front]
theorem parts_enc (T : List UInt8) : ∀ (ps : List CP), (∀ p ∈ ps, ∀ z ∈ partL p, okN z) → (∀ p ∈ ps, p.ts.length ≤ 4) →
    partsOf ((ps.flatMap partL).flatMap enc ++ T, 0) ps.length = ps ∧ itr ((ps.flatMap partL).flatMap enc ++ T, 0) ps.length = (T, 0) ∧ manyB ((ps.flatMap partL).flatMap enc ++ T, 0) ps.length = false
  | [], _, _ => ⟨rfl, rfl, rfl⟩
  | p :: ps, h, hl => by
    have e : ((p :: ps).flatMap partL).flatMap enc ++ T = (partL p).flatMap enc ++ ((ps.flatMap partL).flatMap enc ++ T) := by
      rw [List.flatMap_cons, List.flatMap_append, List.append_assoc]
    obtain ⟨h1, h2, h3⟩ := part_enc ((ps.flatMap partL).flatMap enc ++ T) (h p (by simp))
    obtain ⟨k1, k2, k3⟩ := parts_enc T ps (fun q hq => h q (by simp [hq])) (fun q hq => hl q (by simp [hq]))
    rw [e, List.length_cons, partsOf_front, itr_front, manyB_front, h1, h2, h3, k1, k2, k3]
    refine ⟨rfl, rfl, ?_⟩
    have := hl p (by simp)
    simp
    omega
theorem read_bytes {c : Cfg} (hc : checkB c = true) (T : List UInt8) : readC (bytesL c ++ T) = fin c (T, 0) := by
  have hm := may_of hc
  have hok : ∀ z ∈ nums c, okN z := fun z hz => by
    have := nums_ok hm z hz
    unfold okN
    omega
  have e : bytesL c ++ T = enc (c.ps.length : Int) ++ ((c.ps.flatMap partL).flatMap enc ++ (enc (c.qs.length : Int) ++ ((c.qs.flatMap qL).flatMap enc ++ T))) := by
    unfold bytesL nums
    simp only [List.flatMap_append, List.flatMap_cons, List.flatMap_nil, List.append_nil, List.append_assoc]
  have m1 : (c.ps.length : Int) ∈ nums c := by unfold nums; simp
  have m2 : (c.qs.length : Int) ∈ nums c := by unfold nums; simp
  have m3 : ∀ p ∈ c.ps, ∀ z ∈ partL p, okN z := fun p hp z hz => hok z (by unfold nums; simp only [List.mem_append, List.mem_flatMap]; exact .inl (.inl (.inr ⟨p, hp, hz⟩)))
  have m4 : ∀ z ∈ c.qs.flatMap qL, okN z := fun z hz => hok z (by unfold nums; exact List.mem_append_right _ hz)
  obtain ⟨a1, a2⟩ := rd_enc (hok _ m1) ((c.ps.flatMap partL).flatMap enc ++ (enc (c.qs.length : Int) ++ ((c.qs.flatMap qL).flatMap enc ++ T)))
  obtain ⟨b1, b2, b3⟩ := parts_enc (enc (c.qs.length : Int) ++ ((c.qs.flatMap qL).flatMap enc ++ T)) c.ps m3 fun p hp => (hm.pt p hp).2.2.1
  obtain ⟨c1, c2⟩ := rd_enc (hok _ m2) ((c.qs.flatMap qL).flatMap enc ++ T)
  obtain ⟨d1, d2⟩ := reads_enc T (c.qs.flatMap qL) m4
  rw [ql_len] at d1 d2
  have h4 := hm.p4
  have h8 := hm.q8
  rw [e]
  unfold readC
  rw [a1, a2, if_neg (by omega), Int.toNat_natCast, b3, b2, c1, c2, b1, Int.toNat_natCast, if_neg (by simp), if_neg (by omega), d2]
  have hq : portsOf ((c.qs.flatMap qL).flatMap enc ++ T, 0) c.qs.length = c.qs := ql_inj _ _ (portsOf_len _ _) ((pts_reads _ _).trans d1)
  rw [hq]
theorem back_law {c : Cfg} (hc : checkB c = true) : readC (bytesL c) = (0, c) := by
  have h := read_bytes hc []
  rw [List.append_nil] at h
  rw [h]
  unfold fin
  rw [show endE ([] : List UInt8) 0 = 0 from rfl, if_pos rfl, hc]
  rfl
theorem more_law {c : Cfg} (hc : checkB c = true) (x : UInt8) : readC (bytesL c ++ [x]) = (4, noCfg) := by
  rw [read_bytes hc [x]]
  rfl
end Go.Proofs.Ytekcokbpgpeepaa
