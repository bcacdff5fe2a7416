/-
  The contracts of harm.Within and of what it calls. · The contract of harm.Within.
-/
import Derived.Test.YtnkipokbghnjcaaGreatDoorProg
import Derived.WalkKit
import Derived.ProofKit
import Derived.OpenShut
import Derived.KernelRfl
import Derived.Lib.Hide
import Derived.LoopN
/-! The contracts of harm.Within and of what it calls. -/
namespace Go.Proofs.YtnkipokbghnjcaaGreatDoor
open Go.RowKit

theorem gt22 (a b : Int) (w : World) : Calls Tryz.prog 22 #[.agg #[.int .i64 a, .int .i64 b]] w fun e w' => e = .returned (.bool (decide (b < a))) ∧ Below w.heap.size w w' := by
  go_enter Tryz.func22, Tryz.ntmps22
  go_wp2
  all_goals go_ret
  all_goals exact ⟨rfl, (Below.refl _ _).alloc (Nat.le_refl _) _⟩

theorem gt22_yes {a b : Int} (w : World) (h : b < a) : Calls Tryz.prog 22 #[.agg #[.int .i64 a, .int .i64 b]] w fun e w' => e = .returned (.bool true) ∧ Below w.heap.size w w' := by
  have := gt22 a b w
  rw [decide_eq_true h] at this; exact this
theorem gt22_no {a b : Int} (w : World) (h : a ≤ b) : Calls Tryz.prog 22 #[.agg #[.int .i64 a, .int .i64 b]] w fun e w' => e = .returned (.bool false) ∧ Below w.heap.size w w' := by
  have := gt22 a b w
  rw [decide_eq_false (by omega)] at this; exact this

theorem bcell {W w1 : World} (hb : Below W.heap.size W w1) : (∀ b o, b < W.heap.size → w1.cell? ⟨b, o, none⟩ = W.cell? ⟨b, o, none⟩) ∧ (∀ b o, b < W.heap.size → w1.frozen? ⟨b, o, none⟩ = W.frozen? ⟨b, o, none⟩) :=
  ⟨fun b o h => hb.cell (p := ⟨b, o, none⟩) h, fun b o h => hb.frozen (p := ⟨b, o, none⟩) h⟩

theorem cell_lt {w : World} {b o : Nat} {v : Value} (h : w.cell? ⟨b, o, none⟩ = some v) : b < w.heap.size := by
  unfold World.cell? at h
  cases hq : w.heap[b]? with
  | none => simp [hq] at h
  | some x => exact (Array.getElem?_eq_some_iff.1 hq).1

/-- The pairs of a call of 'all', in memory. -/
structure Three (w : World) (q : Nat) (a0 b0 a1 b1 a2 b2 : Int) : Prop where
  c0 : w.cell? ⟨q, 0, none⟩ = some (.int .i64 a0)
  c1 : w.cell? ⟨q, 1, none⟩ = some (.int .i64 b0)
  c2 : w.cell? ⟨q, 2, none⟩ = some (.int .i64 a1)
  c3 : w.cell? ⟨q, 3, none⟩ = some (.int .i64 b1)
  c4 : w.cell? ⟨q, 4, none⟩ = some (.int .i64 a2)
  c5 : w.cell? ⟨q, 5, none⟩ = some (.int .i64 b2)
theorem Three.below {w w' : World} {q : Nat} {a0 b0 a1 b1 a2 b2 : Int} (h : Three w q a0 b0 a1 b1 a2 b2) (hb : Below w.heap.size w w') : Three w' q a0 b0 a1 b1 a2 b2 := by
  have hq := cell_lt h.c0
  obtain ⟨k, _⟩ := bcell hb
  exact ⟨(k _ _ hq).trans h.c0, (k _ _ hq).trans h.c1, (k _ _ hq).trans h.c2, (k _ _ hq).trans h.c3, (k _ _ hq).trans h.c4, (k _ _ hq).trans h.c5⟩

def IdxPost (r : Int) (w : World) (e : Ending) (w' : World) : Prop := e = .returned (.int .i64 r) ∧ Below w.heap.size w w'

set_option maxHeartbeats 1000000 in
theorem idx_0 {w : World} {q c : Nat} {a0 b0 a1 b1 a2 b2 : Int} (h : Three w q a0 b0 a1 b1 a2 b2) (h0 : b0 < a0) :
    Calls Tryz.prog 55 #[.slice (some ⟨q, 0, none⟩) 3 c, .func (.func 22) #[] #[]] w (IdxPost 0 w) := by
  obtain ⟨c0, c1, _, _, _, _⟩ := h
  go_enter Tryz.func55, Tryz.ntmps55
  go_wp2
  refine wp_loop_rounds 1 ?_
  rw [rounds_succ]
  go_wp2_with (go_at_call 22; refine (gt22_yes _ h0).mono ?_; rintro e w' ⟨rfl, hb⟩)
  go_ret
  exact ⟨rfl, hb⟩

set_option maxHeartbeats 4000000 in
theorem idx_1 {w : World} {q c : Nat} {a0 b0 a1 b1 a2 b2 : Int} (h : Three w q a0 b0 a1 b1 a2 b2) (h0 : a0 ≤ b0) (h1 : b1 < a1) :
    Calls Tryz.prog 55 #[.slice (some ⟨q, 0, none⟩) 3 c, .func (.func 22) #[] #[]] w (IdxPost 1 w) := by
  have H := Lib.hid h
  obtain ⟨c0, c1, _, _, _, _⟩ := h
  go_enter Tryz.func55, Tryz.ntmps55
  go_wp2
  refine wp_loop_rounds 2 ?_
  rw [rounds_succ]
  go_wp2_with (go_at_call 22; refine (gt22_no _ h0).mono ?_; rintro e w1 ⟨rfl, hb1⟩)
  have H1 := Lib.hid (H.out.below hb1)
  have c2 := H1.out.c2
  have c3 := H1.out.c3
  rw [rounds_succ]
  go_wp2_with (go_at_call 22; refine (gt22_yes _ h1).mono ?_; rintro e w2 ⟨rfl, hb2⟩)
  go_ret
  exact ⟨rfl, (hb1).trans (hb2.mono (hb1).size)⟩

set_option maxHeartbeats 4000000 in
theorem idx_2 {w : World} {q c : Nat} {a0 b0 a1 b1 a2 b2 : Int} (h : Three w q a0 b0 a1 b1 a2 b2) (h0 : a0 ≤ b0) (h1 : a1 ≤ b1) (h2 : b2 < a2) :
    Calls Tryz.prog 55 #[.slice (some ⟨q, 0, none⟩) 3 c, .func (.func 22) #[] #[]] w (IdxPost 2 w) := by
  have H := Lib.hid h
  obtain ⟨c0, c1, _, _, _, _⟩ := h
  go_enter Tryz.func55, Tryz.ntmps55
  go_wp2
  refine wp_loop_rounds 3 ?_
  rw [rounds_succ]
  go_wp2_with (go_at_call 22; refine (gt22_no _ h0).mono ?_; rintro e w1 ⟨rfl, hb1⟩)
  have H1 := Lib.hid (H.out.below hb1)
  have c2 := H1.out.c2
  have c3 := H1.out.c3
  rw [rounds_succ]
  go_wp2_with (go_at_call 22; refine (gt22_no _ h1).mono ?_; rintro e w2 ⟨rfl, hb2⟩)
  have H2 := Lib.hid (H1.out.below hb2)
  have c4 := H2.out.c4
  have c5 := H2.out.c5
  rw [rounds_succ]
  go_wp2_with (go_at_call 22; refine (gt22_yes _ h2).mono ?_; rintro e w3 ⟨rfl, hb3⟩)
  go_ret
  exact ⟨rfl, ((hb1).trans (hb2.mono (hb1).size)).trans (hb3.mono ((hb1).trans (hb2.mono (hb1).size)).size)⟩

set_option maxHeartbeats 4000000 in
theorem idx_no {w : World} {q c : Nat} {a0 b0 a1 b1 a2 b2 : Int} (h : Three w q a0 b0 a1 b1 a2 b2) (h0 : a0 ≤ b0) (h1 : a1 ≤ b1) (h2 : a2 ≤ b2) :
    Calls Tryz.prog 55 #[.slice (some ⟨q, 0, none⟩) 3 c, .func (.func 22) #[] #[]] w (IdxPost (-1) w) := by
  have H := Lib.hid h
  obtain ⟨c0, c1, _, _, _, _⟩ := h
  go_enter Tryz.func55, Tryz.ntmps55
  go_wp2
  refine wp_loop_rounds 4 ?_
  rw [rounds_succ]
  go_wp2_with (go_at_call 22; refine (gt22_no _ h0).mono ?_; rintro e w1 ⟨rfl, hb1⟩)
  have H1 := Lib.hid (H.out.below hb1)
  have c2 := H1.out.c2
  have c3 := H1.out.c3
  rw [rounds_succ]
  go_wp2_with (go_at_call 22; refine (gt22_no _ h1).mono ?_; rintro e w2 ⟨rfl, hb2⟩)
  have H2 := Lib.hid (H1.out.below hb2)
  have c4 := H2.out.c4
  have c5 := H2.out.c5
  rw [rounds_succ]
  go_wp2_with (go_at_call 22; refine (gt22_no _ h2).mono ?_; rintro e w3 ⟨rfl, hb3⟩)
  rw [rounds_succ]
  go_wp2
  go_ret
  exact ⟨rfl, ((hb1).trans (hb2.mono (hb1).size)).trans (hb3.mono ((hb1).trans (hb2.mono (hb1).size)).size)⟩

/-- What 'all' says of its three pairs. -/
def allB (a0 b0 a1 b1 a2 b2 : Int) : Bool := decide (a0 ≤ b0) && decide (a1 ≤ b1) && decide (a2 ≤ b2)

theorem contains_yes {w : World} {q c : Nat} {a0 b0 a1 b1 a2 b2 : Int} (h : Three w q a0 b0 a1 b1 a2 b2) (hn : ¬ (a0 ≤ b0 ∧ a1 ≤ b1 ∧ a2 ≤ b2)) :
    ∃ r : Int, 0 ≤ r ∧ Calls Tryz.prog 55 #[.slice (some ⟨q, 0, none⟩) 3 c, .func (.func 22) #[] #[]] w (IdxPost r w) := by
  by_cases h0 : a0 ≤ b0
  · by_cases h1 : a1 ≤ b1
    · exact ⟨2, by omega, idx_2 h h0 h1 (by omega)⟩
    · exact ⟨1, by omega, idx_1 h h0 (by omega)⟩
  · exact ⟨0, by omega, idx_0 h (by omega)⟩

theorem cont_no {w : World} {q c : Nat} {a0 b0 a1 b1 a2 b2 : Int} (h : Three w q a0 b0 a1 b1 a2 b2) (h0 : a0 ≤ b0) (h1 : a1 ≤ b1) (h2 : a2 ≤ b2) :
    Calls Tryz.prog 21 #[.slice (some ⟨q, 0, none⟩) 3 c, .func (.func 22) #[] #[]] w fun e w' => e = .returned (.bool false) ∧ Below w.heap.size w w' := by
  have C := Lib.hid (idx_no (c := c) h h0 h1 h2)
  clear h h0 h1 h2
  go_enter Tryz.func21, Tryz.ntmps21
  go_wp2_with (go_at_call 55; refine C.out.mono ?_; rintro e w1 ⟨rfl, hb1⟩)
  go_ret
  exact ⟨rfl, hb1⟩
theorem cont_yes {w : World} {q c : Nat} {a0 b0 a1 b1 a2 b2 : Int} (h : Three w q a0 b0 a1 b1 a2 b2) (hn : ¬ (a0 ≤ b0 ∧ a1 ≤ b1 ∧ a2 ≤ b2)) :
    Calls Tryz.prog 21 #[.slice (some ⟨q, 0, none⟩) 3 c, .func (.func 22) #[] #[]] w fun e w' => e = .returned (.bool true) ∧ Below w.heap.size w w' := by
  obtain ⟨r, hr, C⟩ := contains_yes (c := c) h hn
  have C := Lib.hid C
  clear h hn
  go_enter Tryz.func21, Tryz.ntmps21
  go_wp2_with (go_at_call 55; refine C.out.mono ?_; rintro e w1 ⟨rfl, hb1⟩)
  go_ret
  exact ⟨rfl, hb1⟩
theorem all_no {w : World} {q c : Nat} {a0 b0 a1 b1 a2 b2 : Int} (h : Three w q a0 b0 a1 b1 a2 b2) (hn : ¬ (a0 ≤ b0 ∧ a1 ≤ b1 ∧ a2 ≤ b2)) :
    Calls Tryz.prog 10 #[.slice (some ⟨q, 0, none⟩) 3 c] w fun e w' => e = .returned (.bool false) ∧ Below w.heap.size w w' := by
  have C := Lib.hid (cont_yes (c := c) h hn)
  clear h hn
  go_enter Tryz.func10, Tryz.ntmps10
  go_wp2_with (go_at_call 21; refine C.out.mono ?_; rintro e w1 ⟨rfl, hb1⟩)
  go_ret
  exact ⟨rfl, hb1⟩
theorem all_yes {w : World} {q c : Nat} {a0 b0 a1 b1 a2 b2 : Int} (h : Three w q a0 b0 a1 b1 a2 b2) (h0 : a0 ≤ b0) (h1 : a1 ≤ b1) (h2 : a2 ≤ b2) :
    Calls Tryz.prog 10 #[.slice (some ⟨q, 0, none⟩) 3 c] w fun e w' => e = .returned (.bool true) ∧ Below w.heap.size w w' := by
  have C := Lib.hid (cont_no (c := c) h h0 h1 h2)
  clear h h0 h1 h2
  go_enter Tryz.func10, Tryz.ntmps10
  go_wp2_with (go_at_call 21; refine C.out.mono ?_; rintro e w1 ⟨rfl, hb1⟩)
  go_ret
  exact ⟨rfl, hb1⟩
end Go.Proofs.YtnkipokbghnjcaaGreatDoor

/-! The contract of harm.Within. -/
namespace Go.Proofs.YtnkipokbghnjcaaGreatDoor
open Go.RowKit

/-- The harms in memory. -/
def Harms (w : World) (a : Addr) (n : Nat) (R T H : Nat → Int) : Prop :=
  ∀ i, i < n → w.cell? (a.add (i * 3)) = some (.int .i64 (R i)) ∧ w.cell? (a.add (i * 3 + 1)) = some (.int .i64 (T i)) ∧ w.cell? (a.add (i * 3 + 2)) = some (.int .i64 (H i))
def okH (R T H : Nat → Int) (n : Nat) (r t h : Int) : Prop := ∀ i, i < n → R i ≤ r ∧ T i ≤ t ∧ H i ≤ h
def WPost (R T H : Nat → Int) (n : Nat) (r t h : Int) (w : World) (e : Ending) (w' : World) : Prop :=
  ((e = .returned (.bool true) ∧ okH R T H n r t h) ∨ (e = .returned (.bool false) ∧ ¬ okH R T H n r t h)) ∧ Below w.heap.size w w'

theorem cell_at (w : World) (a : Addr) (m j : Nat) (hj : 0 < j) : w.cell? ⟨(a.add m).block, (a.add m).off + j, none⟩ = w.cell? (a.add (m + j)) := by
  unfold Addr.add
  by_cases h : m = 0
  · subst h; simp [show ¬ j = 0 by omega]
  · simp [h, Nat.add_assoc]

theorem three_new (w : World) (o : Obj) (a0 b0 a1 b1 a2 b2 : Int) (ty : TypeId) : Three ((w.alloc o).alloc (.cells #[.int .i64 a0, .int .i64 b0, .int .i64 a1, .int .i64 b1, .int .i64 a2, .int .i64 b2] ty)) (w.heap.size + 1) a0 b0 a1 b1 a2 b2 := by
  constructor <;> simp

theorem okH_succ {R T H : Nat → Int} {k : Nat} {r t h : Int} (h0 : okH R T H k r t h) (h1 : R k ≤ r ∧ T k ≤ t ∧ H k ≤ h) : okH R T H (k + 1) r t h := fun i hi => by
  rcases Nat.lt_succ_iff_lt_or_eq.1 hi with h | h
  · exact h0 i h
  · subst h; exact h1

set_option maxHeartbeats 4000000 in
theorem within (w : World) (a : Addr) (n c : Nat) (R T H : Nat → Int) (r t h : Int) (hw : Harms w a n R T H) (hlt : a.block < w.heap.size) (hn : n ≤ 140737488355328) :
    Calls Tryz.prog 5 #[.slice (some a) n c, .agg #[.int .i64 r, .int .i64 t, .int .i64 h]] w (WPost R T H n r t h w) := by
  have HW := Lib.hid hw
  clear hw
  go_enter Tryz.func5, Tryz.ntmps5
  go_wp2
  go_loopw [9] (fun i wr => ∃ k : Nat, k ≤ n ∧ i = .int .i64 k ∧ Below (w.heap.size + 1) (w.alloc (.cells #[.int .i64 r, .int .i64 t, .int .i64 h] 24)) wr ∧ Hid (okH R T H k r t h)) (fun i _ => n - (intOf i).toNat)
  case atStart => exact ⟨0, Nat.zero_le _, rfl, Below.refl _ _, Lib.hid (fun i hi => absurd hi (Nat.not_lt_zero _))⟩
  case round =>
    obtain ⟨k, hk, rfl, hb, hok⟩ := hrel
    have hsz := hb.size
    have b0 : wr.cell? ⟨w.heap.size, 0, none⟩ = some (.int .i64 r) := by rw [hb.cell (p := ⟨w.heap.size, 0, none⟩) (by simp)]; simp
    have b1 : wr.cell? ⟨w.heap.size, 1, none⟩ = some (.int .i64 t) := by rw [hb.cell (p := ⟨w.heap.size, 1, none⟩) (by simp)]; simp
    have b2 : wr.cell? ⟨w.heap.size, 2, none⟩ = some (.int .i64 h) := by rw [hb.cell (p := ⟨w.heap.size, 2, none⟩) (by simp)]; simp
    simp only [World.size_alloc] at hsz
    have hz : w.heap.size < wr.heap.size := hsz
    clear hsz
    by_cases hlt2 : k < n
    · have old : ∀ m, wr.cell? (a.add m) = w.cell? (a.add m) := fun m => by
        have hblk : (a.add m).block = a.block := by unfold Addr.add; split <;> rfl
        rw [hb.cell (p := a.add m) (by rw [hblk]; omega)]
        exact World.cell?_alloc_old _ _ _ (by rw [hblk]; omega)
      obtain ⟨x0, x1, x2⟩ := HW.out k hlt2
      have e0 : wr.cell? (a.add (k * 3)) = some (.int .i64 (R k)) := (old _).trans x0
      have e1 : wr.cell? ⟨(a.add (k * 3)).block, (a.add (k * 3)).off + 1, none⟩ = some (.int .i64 (T k)) := (cell_at _ _ _ _ (by decide)).trans ((old _).trans x1)
      have e2 : wr.cell? ⟨(a.add (k * 3)).block, (a.add (k * 3)).off + 2, none⟩ = some (.int .i64 (H k)) := (cell_at _ _ _ _ (by decide)).trans ((old _).trans x2)
      clear old x0 x1 x2
      have H3 := Lib.hid (three_new wr (.cells #[.int .i64 (R k), .int .i64 (T k), .int .i64 (H k)] 24) (R k) r (T k) t (H k) h 66)
      have hB : Below (w.heap.size + 1) (w.alloc (.cells #[.int .i64 r, .int .i64 t, .int .i64 h] 24)) ((wr.alloc (.cells #[.int .i64 (R k), .int .i64 (T k), .int .i64 (H k)] 24)).alloc (.cells #[.int .i64 (R k), .int .i64 r, .int .i64 (T k), .int .i64 t, .int .i64 (H k), .int .i64 h] 66)) :=
        (hb.alloc (by omega) _).alloc (by simp; omega) _
      have HB := Lib.hid hB
      clear hB hb
      by_cases hgood : R k ≤ r ∧ T k ≤ t ∧ H k ≤ h
      · obtain ⟨g0, g1, g2⟩ := hgood
        have C := Lib.hid (all_yes (c := 3) H3.out g0 g1 g2)
        have OK := Lib.hid (okH_succ hok.out ⟨g0, g1, g2⟩)
        clear g0 g1 g2
        go_wp2_with (go_at_call 10; refine C.out.mono ?_; rintro e w4 ⟨rfl, hb4⟩)
        go_roundw
        case rel => exact ⟨k + 1, by omega, by go_num, HB.out.trans (hb4.mono (by simp; omega)), OK⟩
        case measure => simp [intOf]; omega
      · have C := Lib.hid (all_no (c := 3) H3.out hgood)
        have NO := Lib.hid (show ¬ okH R T H n r t h from fun x => hgood (x k hlt2))
        clear hgood
        go_wp2_with (go_at_call 10; refine C.out.mono ?_; rintro e w4 ⟨rfl, hb4⟩)
        go_ret
        exact ⟨.inr ⟨rfl, NO.out⟩, (((Below.refl _ _).alloc (Nat.le_refl _) _).trans (HB.out.mono (by omega))).trans (hb4.mono (by simp; omega))⟩
    · obtain rfl : k = n := by omega
      go_wp2
      go_ret
      exact ⟨.inl ⟨rfl, hok.out⟩, ((Below.refl _ _).alloc (Nat.le_refl _) _).trans (hb.mono (by omega))⟩
end Go.Proofs.YtnkipokbghnjcaaGreatDoor
