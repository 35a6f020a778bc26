/- Layer 5, plain: what is read of bytes. -/
import Derived.Test.YtekcokbpgpeepaaCnfK
namespace Go.Proofs.Ytekcokbpgpeepaa
set_option linter.unusedVariables false
open Go.RowKit

def cntOf (s : RS) : Int := rdN (rdAt s 2)
def partOf (s : RS) : CP := ⟨rdN s, rdN (rdAt s 1), (List.range (cntOf s).toNat).map fun i => tkOf (rdAt (rdAt s 3) (8 * i))⟩
def nxt (s : RS) : RS := rdAt (rdAt s 3) (8 * (cntOf s).toNat)
def itr (s : RS) : Nat → RS
  | 0 => s
  | k + 1 => nxt (itr s k)
def partsOf (s : RS) (n : Nat) : List CP := (List.range n).map fun i => partOf (itr s i)
def portsOf (s : RS) (n : Nat) : List PV := (List.range n).map fun i => ptOf (rdAt s (6 * i))
def manyB (s : RS) (n : Nat) : Bool := (List.range n).any fun i => decide (4 < cntOf (itr s i))
def noCfg : Cfg := ⟨[], []⟩
/-- What stands behind the ports. -/
def fin (c : Cfg) (s : RS) : Int × Cfg := if endE s.1 s.2 = 0 then (if checkB c then (0, c) else (50, noCfg)) else (endE s.1 s.2, noCfg)
def readC (L : List UInt8) : Int × Cfg :=
  if 4 < rdN (L, 0) then (50, noCfg) else if manyB (rdS (L, 0)) (rdN (L, 0)).toNat then (50, noCfg)
  else if 8 < rdN (itr (rdS (L, 0)) (rdN (L, 0)).toNat) then (50, noCfg)
  else fin ⟨partsOf (rdS (L, 0)) (rdN (L, 0)).toNat, portsOf (rdS (itr (rdS (L, 0)) (rdN (L, 0)).toNat)) (rdN (itr (rdS (L, 0)) (rdN (L, 0)).toNat)).toNat⟩
    (rdAt (rdS (itr (rdS (L, 0)) (rdN (L, 0)).toNat)) (6 * (rdN (itr (rdS (L, 0)) (rdN (L, 0)).toNat)).toNat))
theorem rdAt_add (s : RS) (a : Nat) : ∀ b, rdAt s (a + b) = rdAt (rdAt s a) b
  | 0 => rfl
  | b + 1 => by
    show rdS (rdAt s (a + b)) = rdS (rdAt (rdAt s a) b)
    rw [rdAt_add s a b]
theorem rdN_in (s : RS) : 0 ≤ rdN s ∧ rdN s ≤ 9007199254740991 := by
  unfold rdN
  split
  · unfold numV
    split
    · next h => have := numE_pos h; omega
    · omega
  · omega
theorem partsOf_succ (s : RS) (n : Nat) : partsOf s (n + 1) = partsOf s n ++ [partOf (itr s n)] := by simp [partsOf, List.range_succ]
theorem portsOf_succ (s : RS) (n : Nat) : portsOf s (n + 1) = portsOf s n ++ [ptOf (rdAt s (6 * n))] := by simp [portsOf, List.range_succ]
theorem manyB_succ (s : RS) (n : Nat) : manyB s (n + 1) = (manyB s n || decide (4 < cntOf (itr s n))) := by simp [manyB, List.range_succ]
theorem manyB_of {s : RS} {k n : Nat} (h : 4 < cntOf (itr s k)) (hk : k < n) : manyB s n = true := by
  unfold manyB
  rw [List.any_eq_true]
  exact ⟨k, by simpa using hk, by simpa using h⟩
theorem partsOf_len (s : RS) (n : Nat) : (partsOf s n).length = n := by simp [partsOf]
theorem portsOf_len (s : RS) (n : Nat) : (portsOf s n).length = n := by simp [portsOf]
/-- The tasks of a part, so far. -/
def tksOf (s : RS) (j : Nat) : List TV := (List.range j).map fun i => tkOf (rdAt s (8 * i))
theorem tksOf_succ (s : RS) (j : Nat) : tksOf s (j + 1) = tksOf s j ++ [tkOf (rdAt s (8 * j))] := by simp [tksOf, List.range_succ]
theorem tksOf_len (s : RS) (j : Nat) : (tksOf s j).length = j := by simp [tksOf]
/-- How Parse ends. -/
structure ParseQ (L : List UInt8) (B : Nat) (w' : World) (e : Ending) : Prop where
  ex : ∃ v1 v2, e = .returned (.tuple #[.agg #[v1, v2], .int .i64 (readC L).1]) ∧ OwnP w' B v1 (readC L).2.ps ∧ OwnQ w' B v2 (readC L).2.qs
theorem parseQ_no {L : List UInt8} {z : Int} (h : readC L = (z, noCfg)) (B : Nat) (w' : World) : ParseQ L B w' (.returned (.tuple #[.agg #[.slice none 0 0, .slice none 0 0], .int .i64 z])) := by
  refine ⟨⟨.slice none 0 0, .slice none 0 0, ?_, ?_, ?_⟩⟩
  · rw [h]
  · rw [h]; exact OwnP.nil
  · rw [h]; exact OwnQ.nil
/-- The memory between two parts. -/
structure PI (w : World) (B g qc q4 : Nat) (s : RS) (k : Nat) (v : Value) (wr : World) : Prop where
  c : Blk wr qc 25 #[v, .slice none 0 0]
  r : Blk wr q4 64 #[.pointer (some ⟨g, 0, none⟩)]
  rd : RdB B wr g (itr s k).1 (itr s k).2
  p : OwnP wr B v (partsOf s k)
  b : Below B w wr
  hg : B ≤ g
  hc : B ≤ qc
  h4 : B ≤ q4
  hw : B ≤ w.heap.size
theorem readB_c (A : Option Addr) (n c : Nat) (L : List UInt8) (w : World) (h : n = L.length ∧ BytesR w A L) (hA : A = none → c = 0) (hc : n ≤ c) (hl : c ≤ 9223372036854775807) (B : Nat) (hB : L ≠ [] → ∃ b off, A = some ⟨b, off, none⟩ ∧ b < B) :
    Calls Try.prog 35 #[.slice A n c] w fun e w' => e = .returned (.pointer (some ⟨w.heap.size, 0, none⟩)) ∧ RdB B w' w.heap.size L 0 ∧ Below w.heap.size w w' := by
  have HH := Lib.hid h
  clear h
  go_enter Try.func35, Try.ntmps35
  go_wp2
  go_ret
  refine ⟨rfl, ⟨A, c, ⟨?_, fun hL => ?_, by rw [← HH.out.1]; exact hc, hA, hl⟩, hB⟩, (Below.refl _ _).alloc (Nat.le_refl _) _⟩
  · rw [← HH.out.1]; exact Blk.new w _ _
  · obtain ⟨b, off, h1, h2, h3⟩ := HH.out.2 hL
    exact ⟨b, off, h1, by simp; omega, by omega, fun i x hi => ((Below.refl _ _).alloc (Nat.le_refl _) _ : Below w.heap.size w _).cell (p := ⟨b, off + i, none⟩) h2 |>.trans (h3 i x hi)⟩
end Go.Proofs.Ytekcokbpgpeepaa
