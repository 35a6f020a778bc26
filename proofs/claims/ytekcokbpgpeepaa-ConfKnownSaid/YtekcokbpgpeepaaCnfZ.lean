/- Layer 5: the document's Copy, walked. -/
import Derived.Test.YtekcokbpgpeepaaCnfY
namespace Go.Proofs.Ytekcokbpgpeepaa
set_option linter.unusedVariables false
open Go.RowKit

/-- The memory while a configuration is copied. -/
structure CI (w : World) (A : Option Addr) (n1 : Nat) (A2 : Option Addr) (n2 : Nat) (c : Cfg) (k : Nat) (v : Value) (wr : World) : Prop where
  a : Blk wr w.heap.size 25 #[.slice A c.ps.length n1, .slice A2 c.qs.length n2]
  r : Blk wr (w.heap.size + 1) 25 #[.slice none 0 0, .slice none 0 0]
  o : Blk wr (w.heap.size + 1 + 1) 25 #[v, .slice none 0 0]
  p : OwnP wr w.heap.size v (c.ps.take k)
  b : Below w.heap.size w wr
theorem ci_start (w : World) (A : Option Addr) (n1 : Nat) (A2 : Option Addr) (n2 : Nat) (c : Cfg) : CI w A n1 A2 n2 c 0 (.slice none 0 0) (((w.alloc (.cells #[.slice A c.ps.length n1, .slice A2 c.qs.length n2] 25)).alloc (.cells #[.slice none 0 0, .slice none 0 0] 25)).alloc (.cells #[.slice none 0 0, .slice none 0 0] 25)) := by
  have e1 : (w.alloc (.cells #[.slice A c.ps.length n1, .slice A2 c.qs.length n2] 25)).heap.size = w.heap.size + 1 := by simp
  have e2 : ((w.alloc (.cells #[.slice A c.ps.length n1, .slice A2 c.qs.length n2] 25)).alloc (.cells #[.slice none 0 0, .slice none 0 0] 25)).heap.size = w.heap.size + 1 + 1 := by simp
  refine ⟨((Blk.new w _ _).alloc _).alloc _, ?_, ?_, by rw [List.take_zero]; exact OwnP.nil, (((Below.refl _ _).alloc (Nat.le_refl _) _).alloc (by rw [e1]; omega) _).alloc (by rw [e2]; omega) _⟩
  · have := (Blk.new (w.alloc (.cells #[.slice A c.ps.length n1, .slice A2 c.qs.length n2] 25)) 25 #[.slice none 0 0, .slice none 0 0]).alloc (.cells #[.slice none 0 0, .slice none 0 0] 25)
    rwa [e1] at this
  · have := Blk.new ((w.alloc (.cells #[.slice A c.ps.length n1, .slice A2 c.qs.length n2] 25)).alloc (.cells #[.slice none 0 0, .slice none 0 0] 25)) 25 #[.slice none 0 0, .slice none 0 0]
    rwa [e2] at this
/-- Behind the copy of a part's tasks, and the part's append. -/
theorem CI.push {w wr w7 w9 : World} {A A2 : Option Addr} {n1 n2 k : Nat} {c : Cfg} {v v9 : Value} {p : CP} (h : CI w A n1 A2 n2 c k v wr) (hx : c.ps[k]? = some p) (hb : Below wr.heap.size wr w7)
    (hO : OwnP w9 w.heap.size v9 (c.ps.take k ++ [p])) (hk : Keeps (fun i => w.heap.size ≤ i ∧ v.ownBlock = some i) w7 w9) (ht : ∀ q t' cs', Blk w7 q t' cs' → t' ≠ 41 → Blk w9 q t' cs') :
    CI w A n1 A2 n2 c (k + 1) v9 (w9.setCell ⟨w.heap.size + 1 + 1, 0, none⟩ v9) := by
  have hle := h.b.size
  have a7 := ht _ _ _ (h.a.below hb h.a.lt) (by decide)
  have r7 := ht _ _ _ (h.r.below hb h.r.lt) (by decide)
  have o7 := ht _ _ _ (h.o.below hb h.o.lt) (by decide)
  refine ⟨a7.far (by show w.heap.size ≠ w.heap.size + 1 + 1; omega) _, r7.far (by show w.heap.size + 1 ≠ w.heap.size + 1 + 1; omega) _, o7.set_ 0 v9, ?_, ?_⟩
  · rw [List.take_add_one, hx]
    exact hO.keep fun q t cs hq hb => hb.far (by rcases hq with rfl | rfl <;> exact hb.ne_ o7 (by decide)) _
  · have h7 := below_lift h.b hb hle
    exact (Below.keeps h7 hk h7.size (fun i hi => hi.1)).setCell (by show w.heap.size ≤ w.heap.size + 1 + 1; omega) _
theorem slS (w : World) (p : Addr) (u : Value) : Value.slice (some ⟨w.heap.size, 0, none⟩) 1 1 = Value.slice (some ⟨(w.setCell p u).heap.size, 0, none⟩) 1 1 := by simp
theorem copyr_c (A A2 : Option Addr) (n1 n2 : Nat) (c : Cfg) (w : World) (h : CfA w A n1 A2 n2 c) :
    Calls Try.prog 9 #[.agg #[.slice A c.ps.length n1, .slice A2 c.qs.length n2]] w fun e w' => ∃ B1 m1 B2 m2, e = .returned (.agg #[.slice B1 c.ps.length m1, .slice B2 c.qs.length m2]) ∧ CfA w' B1 m1 B2 m2 c ∧ Below w.heap.size w w' := by
  have H0 := Lib.hid (ci_start w A n1 A2 n2 c)
  have HH := Lib.hid h
  have hs1 := h.s1
  clear h
  go_enter Try.func9, Try.ntmps9
  go_wp2_with fail
  generalize hwa : (((w.alloc (.cells #[.slice A c.ps.length n1, .slice A2 c.qs.length n2] 25)).alloc (.cells #[.slice none 0 0, .slice none 0 0] 25)).alloc (.cells #[.slice none 0 0, .slice none 0 0] 25)) = wa at *
  clear hwa
  go_loopw [4] (fun y wr => ∃ (k : Nat) (v : Value), k ≤ c.ps.length ∧ y = .int .i64 k ∧ CI w A n1 A2 n2 c k v wr) (fun y _ => c.ps.length - (intOf y).toNat)
  case atStart => exact ⟨0, _, Nat.zero_le _, rfl, H0.out⟩
  case round =>
    obtain ⟨k, v, hk, rfl, hC⟩ := hrel
    obtain ⟨wb, rfl⟩ : ∃ x : World, x = wr := ⟨_, rfl⟩
    have a0 : wb.cell? ⟨w.heap.size, 0, none⟩ = some (.slice A c.ps.length n1) := (hC.a.cell 0).trans rfl
    have a1 : wb.cell? ⟨w.heap.size, 1, none⟩ = some (.slice A2 c.qs.length n2) := (hC.a.cell 1).trans rfl
    have hl0 : w.heap.size < wb.heap.size := hC.a.lt
    have hl2 : w.heap.size + 1 + 1 < wb.heap.size := hC.o.lt
    have HC := Lib.hid hC
    by_cases hlt : k < c.ps.length
    · have hk1 : (k : Int) < (c.ps.length : Int) := by omega
      obtain ⟨p, hx⟩ : ∃ p, c.ps[k]? = some p := ⟨_, List.getElem?_eq_getElem hlt⟩
      obtain ⟨b, off, rfl, hbl, hcc⟩ := HH.out.ps (by intro e; rw [e] at hx; cases hx)
      obtain ⟨e0, e1, u, e2, hS⟩ : CpAt w b (off + k * 3) p := hcc k p hx
      have d0 := (hC.b.cell (p := ⟨b, off + k * 3, none⟩) hbl).trans e0
      have d1 := (hC.b.cell (p := ⟨b, off + k * 3 + 1, none⟩) hbl).trans e1
      have d2 := (hC.b.cell (p := ⟨b, off + k * 3 + 2, none⟩) hbl).trans e2
      obtain ⟨⟨TA, tc, rfl, htl, htA, hT⟩, hsm⟩ := hS.below hC.b
      have HX := Lib.hid hx
      have HTA := Lib.hid (hT.below ((Below.refl _ _).alloc (Nat.le_refl _) (.cells #[.int .i64 p.per, .int .i64 p.bud, .slice TA p.ts.length tc] 41)))
      have HPB := Lib.hid (Blk.new wb 41 #[.int .i64 p.per, .int .i64 p.bud, .slice TA p.ts.length tc])
      have HBA : Hid (Below wb.heap.size wb (wb.alloc (.cells #[.int .i64 p.per, .int .i64 p.bud, .slice TA p.ts.length tc] 41))) := (Below.refl _ _).alloc (Nat.le_refl _) _
      have HLP : Hid (((c.ps.take k).length + 1) * 40 ≤ 140737488355328) := by show _ ≤ _; rw [List.length_take]; omega
      clear hx hcc hC hT e0 e1 e2
      go_wp2_with (first
        | (at_builtin; refine wpList_append_part (B := w.heap.size) (L := c.ps.take k) (p := p) rfl (.tmp 26) (.tmp 28) rfl rfl HP7.out HW7.out HT7.out hsm rfl (slS w7 ⟨wb.heap.size, 2, none⟩ (.slice A7 m7 c7)) HLP.out ?_; intro v9 w9 hO9 hk9 ht9; obtain ⟨A9, m9, c9, rfl⟩ := hO9.sl; have hq7 := HC.out.o.below HB7.out HC.out.o.lt; have ho9 := ht9 _ _ _ hq7 (by decide); have o9 : w9.cell? ⟨w.heap.size + 1 + 1, 0, none⟩ = some v := (ho9.cell 0).trans rfl; have f9 := ho9.frozen 0; have HC9 := Lib.hid (HC.out.push HX.out HB7.out hO9 hk9 ht9); clear hO9 hk9 ht9 ho9 hq7)
        | (at_builtin; refine wpList_copy_tasks rfl (.tmp 20) (.tmp 22) rfl rfl rfl rfl HTA.out htA hsm ?_; intro v7 w7 hO7 hb7; obtain ⟨A7, m7, c7, rfl⟩ := hO7.sl; have hp7 := HPB.out.below hb7 HPB.out.lt; have p0 : w7.cell? ⟨wb.heap.size, 0, none⟩ = some (.int .i64 p.per) := (hp7.cell 0).trans rfl; have p1 : w7.cell? ⟨wb.heap.size, 1, none⟩ = some (.int .i64 p.bud) := (hp7.cell 1).trans rfl; have p2 : w7.cell? ⟨wb.heap.size, 2, none⟩ = some (.slice TA p.ts.length tc) := (hp7.cell 2).trans rfl; have f2 := hp7.frozen 2; have hbx := (below_lift HBA.out hb7 HBA.out.size).setCell (p := ⟨wb.heap.size, 2, none⟩) (Nat.le_refl _) (.slice A7 m7 c7); have HB7 := Lib.hid hbx; have HT7 := Lib.hid (((hO7.mono (Nat.le_trans HC.out.b.size HBA.out.size)).keep (w' := w7.setCell ⟨wb.heap.size, 2, none⟩ (.slice A7 m7 c7)) fun q cs hb => hb.far (hb.ne_ hp7 (by decide)) _)); have HP7 := Lib.hid (HC.out.p.keep (w' := w7.setCell ⟨wb.heap.size, 2, none⟩ (.slice A7 m7 c7)) fun q t cs _ hb => hb.below hbx hb.lt); have HW7 := Lib.hid (Nat.le_trans HC.out.b.size hbx.size); have o0 : w7.cell? ⟨w.heap.size + 1 + 1, 0, none⟩ = some v := (((HC.out.o.below HBA.out HC.out.o.lt).below hb7 (HC.out.o.below HBA.out HC.out.o.lt).lt).cell 0).trans rfl; have hne2 : ¬ w.heap.size + 1 + 1 = wb.heap.size := Nat.ne_of_lt hl2; clear hO7 hb7 hp7 hbx))
      go_roundw
      case rel => exact ⟨k + 1, _, by omega, rfl, HC9.out⟩
      case measure => simp [intOf]; omega
    · have hk1 : ¬ (k : Int) < (c.ps.length : Int) := by omega
      obtain ⟨B1, m0, m1, rfl⟩ := hC.p.sl
      have o0 : wb.cell? ⟨w.heap.size + 1 + 1, 0, none⟩ = some (.slice B1 m0 m1) := (hC.o.cell 0).trans rfl
      have o1 : wb.cell? ⟨w.heap.size + 1 + 1, 1, none⟩ = some (.slice none 0 0) := (hC.o.cell 1).trans rfl
      have HQ := Lib.hid (HH.out.qs.below hC.b)
      have hs2 := HH.out.s2
      have ha2 := HH.out.a2
      clear hC
      go_wp2_with (at_builtin; refine wpList_copy_ports rfl (.tmp 32) (.tmp 34) rfl rfl rfl rfl HQ.out ha2 hs2 ?_; intro v7 w7 hO7 hb7; obtain ⟨A7, m7, c7, rfl⟩ := hO7.sl; have ho7 := HC.out.o.below hb7 HC.out.o.lt; have hr7 := HC.out.r.below hb7 HC.out.r.lt; have q0 : w7.cell? ⟨w.heap.size + 1 + 1, 0, none⟩ = some (.slice B1 m0 m1) := (ho7.cell 0).trans rfl; have q1 : w7.cell? ⟨w.heap.size + 1 + 1, 1, none⟩ = some (.slice none 0 0) := (ho7.cell 1).trans rfl; have g1 := ho7.frozen 1; have r0 : w7.cell? ⟨w.heap.size + 1, 0, none⟩ = some (.slice none 0 0) := (hr7.cell 0).trans rfl; have r1 : w7.cell? ⟨w.heap.size + 1, 1, none⟩ = some (.slice none 0 0) := (hr7.cell 1).trans rfl; have fr0 := hr7.frozen 0; have fr1 := hr7.frozen 1; have HO7 := Lib.hid hO7; have HB7 := Lib.hid hb7; have HO3 := Lib.hid ho7; have HR3 := Lib.hid hr7; clear hO7 hb7 ho7 hr7)
      have hne : w.heap.size + 1 ≠ w.heap.size + 1 + 1 := by omega
      have hr8 := HR3.out.far (p := ⟨w.heap.size + 1 + 1, 1, none⟩) hne (.slice A7 m7 c7)
      have cc0 := ((hr8.set_ 0 (.slice B1 m0 m1)).set_ 1 (.slice A7 m7 c7)).cell 0
      have cc1 := ((hr8.set_ 0 (.slice B1 m0 m1)).set_ 1 (.slice A7 m7 c7)).cell 1
      have hP : OwnP (((w7.setCell ⟨w.heap.size + 1 + 1, 1, none⟩ (.slice A7 m7 c7)).setCell ⟨w.heap.size + 1, 0, none⟩ (.slice B1 m0 m1)).setCell ⟨w.heap.size + 1, 1, none⟩ (.slice A7 m7 c7)) w.heap.size (.slice B1 m0 m1) c.ps := by
        have h0 := HC.out.p
        rw [List.take_of_length_le (by omega)] at h0
        exact (((h0.keep (w' := w7) fun q t cs _ hb => hb.below HB7.out hb.lt).keep fun q t cs hq hb => hb.far (by rcases hq with rfl | rfl <;> exact hb.ne_ HO3.out (by decide)) _).keep fun q t cs hq hb => hb.far (by rcases hq with rfl | rfl <;> exact hb.ne_ hr8 (by decide)) _).keep fun q t cs hq hb => hb.far (by rcases hq with rfl | rfl <;> exact hb.ne_ (hr8.set_ 0 (.slice B1 m0 m1)) (by decide)) _
      have hQ : OwnQ (((w7.setCell ⟨w.heap.size + 1 + 1, 1, none⟩ (.slice A7 m7 c7)).setCell ⟨w.heap.size + 1, 0, none⟩ (.slice B1 m0 m1)).setCell ⟨w.heap.size + 1, 1, none⟩ (.slice A7 m7 c7)) wb.heap.size (.slice A7 m7 c7) c.qs :=
        ((HO7.out.keep fun q cs hb => hb.far (hb.ne_ HO3.out (by decide)) _).keep fun q cs hb => hb.far (hb.ne_ hr8 (by decide)) _).keep fun q cs hb => hb.far (hb.ne_ (hr8.set_ 0 (.slice B1 m0 m1)) (by decide)) _
      obtain ⟨X1, x1, y1, z1, t1, u1⟩ := hP.form
      obtain ⟨X2, x2, y2, z2, t2, u2⟩ := hQ.form
      have hB7 := below_lift HC.out.b HB7.out HC.out.b.size
      refine bodyPost_ret (v := .agg #[.slice B1 m0 m1, .slice A7 m7 c7]) (by simp [results, Try.results9, go_sem, cc0, cc1] <;> rfl) rfl ⟨X1, x1, X2, x2, by rw [y1, y2], ⟨u1, u2, z1, z2, t1, t2, HH.out.s1, HH.out.s2⟩, ((hB7.setCell (by show w.heap.size ≤ w.heap.size + 1 + 1; omega) _).setCell (by show w.heap.size ≤ w.heap.size + 1; omega) _).setCell (by show w.heap.size ≤ w.heap.size + 1; omega) _⟩
end Go.Proofs.Ytekcokbpgpeepaa
