/- Put, the program's and the document's. -/
import Derived.Test.YtekcokbpgpeepaaPackB
namespace Go.Proofs.Ytekcokbpgpeepaa
set_option linter.unusedVariables false
open Go.RowKit

/-- The bytes of a number. -/
def bX (m : Int) (j : Nat) : UInt8 := UInt8.ofNat (m / 2 ^ (56 - 8 * j) % 256).toNat
def beK (m : Int) (k : Nat) : List UInt8 := (List.range k).map (bX m)
def enc (n : Int) : List UInt8 := if n < 255 then [UInt8.ofNat n.toNat] else 255 :: beK (n - 254) 8
def encT (R : Nat → Int) : Nat → List UInt8
  | 0 => []
  | k + 1 => encT R k ++ enc (R k)
def okN (n : Int) : Prop := 0 ≤ n ∧ n ≤ 9007199254740991
def AllOk (R : Nat → Int) (n : Nat) : Prop := ∀ i, i < n → okN (R i)
theorem beK_succ (m : Int) (k : Nat) : beK m (k + 1) = beK m k ++ [bX m k] := by simp [beK, List.range_succ]
theorem beK_length (m : Int) (k : Nat) : (beK m k).length = k := by simp [beK]
theorem enc_length (n : Int) : (enc n).length ≤ 9 := by
  unfold enc
  split
  · simp
  · simp [beK_length]
theorem encT_length (R : Nat → Int) : ∀ k, (encT R k).length ≤ 9 * k
  | 0 => by simp [encT]
  | k + 1 => by have := encT_length R k; have := enc_length (R k); simp only [encT, List.length_append]; omega
theorem wpList_append_byte {ops : Array Oper} {rest : List Oper} {o : Oper} {a : Act} {Q : Exit → Act → World → Prop} {w0 w : World} {B : Nat} {v : Value} {L : List UInt8} (hgd : o.guard = none) (s x : Operand)
    (ho : o.op = .call { callee := .builtin .append, args := #[s, x], argTypes := #[27, 27] }) (hs : a.eval s = v) (hO : OwnB w B v L) (hB : Below B w0 w) (hBw : B ≤ w.heap.size) (z : Int) (b : UInt8) (hz : z = (b.toNat : Int))
    (hx : a.eval x = .slice (some ⟨w.heap.size, 0, none⟩) 1 1) (hl : L.length + 1 ≤ 140737488355328)
    (h : ∀ v' w', OwnB w' B v' (L ++ [b]) → Below B w0 w' → wpList Try.prog ops Q rest (a.put o.dst v') w') : wpList Try.prog ops Q (o :: rest) a (w.alloc (.cells #[.int .u8 z] 5)) := by
  obtain ⟨i0, hi0, hz0, hz1, hz2⟩ := info_parts byte_info
  have hsrc : SrcR (w.alloc (.cells #[.int .u8 z] 5)) 1 (some ⟨w.heap.size, 0, none⟩) 1 1 (bcs [b]) := (bytesR_new (L := [b]) (by rw [hz]; rfl)).src (fun h => by cases h)
  refine wpList_append_src hgd s x _ ho B 5 i0 _ 1 1 Try.underlying27 hi0 hz0 hz1 hz2 rfl (by omega) v L.length (bcs L) hs (hO.below ((Below.refl _ _).alloc (Nat.le_refl _) _)) _ _ _ (bcs [b]) hx hsrc (bcs_one _) (by simp only [maxLen]; omega) (by omega) (by simp; omega) ?_
  intro v' w' hown hg _
  exact h v' w' (OwnB.of (by rw [bcs_append]; exact hown)) (below_grown (hB.alloc hBw _) hg (by simp; omega) (own_from hO))
theorem byte_of (z : Int) (h0 : 0 ≤ z) (h1 : z ≤ 255) : z = ((UInt8.ofNat z.toNat).toNat : Int) := by
  have : z.toNat < 256 := by omega
  rw [UInt8.toNat_ofNat', Nat.mod_eq_of_lt (by simpa using this)]
  omega
/-- How Put ends. -/
def PutQ (R : Nat → Int) (n1 : Nat) (L : List UInt8) (B : Nat) (w' : World) (e : Ending) : Prop :=
  (AllOk R n1 ∧ ∃ v, e = .returned (.tuple #[v, .int .i64 0]) ∧ OwnB w' B v (L ++ encT R n1)) ∨ (¬ AllOk R n1 ∧ e = .returned (.tuple #[.slice none 0 0, .int .i64 2]))
theorem bX_toNat (m : Int) (j : Nat) : m / 2 ^ (56 - 8 * j) % 256 = ((bX m j).toNat : Int) := byte_of _ (by omega) (by omega)
set_option maxHeartbeats 400000 in
theorem put_a (A : Option Addr) (n c : Nat) (L : List UInt8) (A1 : Option Addr) (n1 c1 : Nat) (R : Nat → Int) (w : World) (h : n = L.length ∧ BytesR w A L) (hA : A = none → c = 0) (hc : n ≤ c)
    (hR : IntsAt w A1 n1 R) (hl : n + 9 * n1 ≤ 140737488355328) :
    Calls Try.prog 23 #[.slice A n c, .slice A1 n1 c1] w fun e w' => PutQ R n1 L w.heap.size w' e ∧ Below w.heap.size w w' := by
  obtain ⟨i0, hi0, hz0, hz1, hz2⟩ := info_parts byte_info
  have HC := Lib.hid h
  have HR := Lib.hid hR
  have hl0 : n ≤ 140737488355328 := by omega
  clear h hR
  go_enter Try.func23, Try.ntmps23
  go_wp2_with (first
    | (go_at_call 44; with_reducible refine (clone_c A n c L _ hl0 HC.out hA hc).mono ?_; rintro e w1 ⟨v1, rfl, hO1, hB1⟩))
  go_loopw [6, 14] (fun v y wr => ∃ k : Nat, k ≤ n1 ∧ y = .int .i64 k ∧ OwnB wr w.heap.size v (L ++ encT R k) ∧ AllOk R k ∧ Below w.heap.size w wr) (fun _ y _ => n1 - (intOf y).toNat)
  case atStart => exact ⟨0, Nat.zero_le _, rfl, by simpa [encT] using hO1, fun i hi => absurd hi (by omega), hB1⟩
  case round =>
    clear hO1 hB1
    obtain ⟨k, hk, rfl, hO, hok, hB⟩ := hrel
    have HO := Lib.hid hO
    have HK := Lib.hid hok
    clear hO hok
    by_cases hlt : k < n1
    · have hltI : (k : Int) < (n1 : Nat) := by omega
      obtain ⟨b, off, rfl, hb, hx⟩ := HR.out (by omega)
      have o0 := (hB.cell (p := ⟨b, off + k, none⟩) hb).trans (hx k hlt)
      obtain ⟨z, hz⟩ : ∃ z, R k = z := ⟨_, rfl⟩
      rw [hz] at o0
      have HZ := Lib.hid hz
      clear hz hx
      by_cases h0 : z < 0
      · go_wp2_with fail
        go_ret2
        exact ⟨.inr ⟨fun h => by have := (h k hlt).1; rw [HZ.out] at this; omega, rfl⟩, hB⟩
      · by_cases h1 : 9007199254740991 < z
        · go_wp2_with fail
          go_ret2
          exact ⟨.inr ⟨fun h => by have := (h k hlt).2; rw [HZ.out] at this; omega, rfl⟩, hB⟩
        · have HL : Hid ((L ++ encT R k).length + 1 ≤ 140737488355328) := by
            show (L ++ encT R k).length + 1 ≤ 140737488355328
            have h3 := encT_length R k
            have h4 := HC.out.1
            simp only [List.length_append]; omega
          have HOK : Hid (AllOk R (k + 1)) := fun i hi => by
            rcases (by omega : i < k ∨ i = k) with h | rfl
            · exact HK.out i h
            · rw [HZ.out]; exact ⟨by omega, by omega⟩
          by_cases h2 : z < 255
          · go_wp2_with (at_builtin; refine wpList_append_byte rfl _ _ rfl rfl HO.out hB hB.size z (UInt8.ofNat z.toNat) (byte_of z (by omega) (by omega)) rfl HL.out ?_; intro v2 w2 hO2 hB2)
            go_roundw
            case rel =>
              refine ⟨k + 1, by omega, rfl, ?_, ?_, hB2⟩
              · rw [encT, HZ.out, enc, if_pos (by omega), ← List.append_assoc]; exact hO2
              · exact HOK.out
            case measure => simp [intOf]; omega
          · go_wp2_with (at_builtin; refine wpList_append_byte rfl _ _ rfl rfl HO.out hB hB.size 255 255 rfl rfl HL.out ?_; intro v2 w2 hO2 hB2)
            clear hB
            obtain ⟨wo, rfl⟩ : ∃ wo : World, wo = wr := ⟨_, rfl⟩
            go_loopw [6, 9] (fun v y wr => ∃ j : Nat, j ≤ 8 ∧ y = .int .i64 (56 - 8 * (j : Int)) ∧ OwnB wr w.heap.size v (L ++ encT R k ++ [255] ++ beK (z - 254) j) ∧ Below w.heap.size w wr) (fun _ y _ => (intOf y + 8).toNat)
            case atStart => exact ⟨0, by omega, rfl, by simpa [beK] using hO2, hB2⟩
            case round =>
              clear hO2 hB2
              obtain ⟨j, hj, rfl, hO3, hB3⟩ := hrel
              have HO3 := Lib.hid hO3
              clear hO3
              by_cases hlt3 : (0 : Int) ≤ 56 - 8 * (j : Int)
              · have HL3 : Hid ((L ++ encT R k ++ [255] ++ beK (z - 254) j).length + 1 ≤ 140737488355328) := by
                  show (L ++ encT R k ++ [255] ++ beK (z - 254) j).length + 1 ≤ 140737488355328
                  have h3 := encT_length R k
                  have h4 := HC.out.1
                  have h5 := beK_length (z - 254) j
                  simp only [List.length_append, List.length_cons, List.length_nil]; omega
                have HB3 : Hid ((z - 255 + 1) / 2 ^ (56 - 8 * j) % 256 = ((bX (z - 254) j).toNat : Int)) := by
                  show (z - 255 + 1) / 2 ^ (56 - 8 * j) % 256 = ((bX (z - 254) j).toNat : Int)
                  rw [show z - 255 + 1 = z - 254 by omega]; exact bX_toNat _ _
                go_wp2_with (at_builtin; refine wpList_append_byte rfl _ _ rfl rfl HO3.out hB3 hB3.size _ (bX (z - 254) j) HB3.out rfl HL3.out ?_; intro v4 w4 hO4 hB4)
                go_roundw
                case rel => exact ⟨j + 1, by omega, by congr 1; omega, by rw [beK_succ, ← List.append_assoc]; exact hO4, hB4⟩
                case measure => simp [intOf]; omega
              · obtain rfl : 8 = j := by omega
                go_wp2_with fail
                go_roundw
                case rel =>
                  refine ⟨k + 1, by omega, rfl, ?_, ?_, hB3⟩
                  · rw [encT, HZ.out, enc, if_neg (by omega)]; simpa using HO3.out
                  · exact HOK.out
                case measure => simp [intOf]; omega
    · obtain rfl : n1 = k := by omega
      go_wp2_with fail
      go_ret2
      exact ⟨.inl ⟨HK.out, _, rfl, HO.out⟩, hB⟩
end Go.Proofs.Ytekcokbpgpeepaa
