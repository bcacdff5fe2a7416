/-
  The law's walk at a list that is not empty.
-/
import Derived.Test.YtnkipokbghnjcaaGreatDoorWalkB
import Derived.StillTailTactics
/-! The law's walk at a list that is not empty. -/
namespace Go.Proofs.YtnkipokbghnjcaaGreatDoor
open Go.RowKit

/-- The greatest of the first k + 1. -/
def mx (F : Nat → Int) : Nat → Int
  | 0 => F 0
  | k + 1 => max (mx F k) (F (k + 1))
theorem mx_ge (F : Nat → Int) : ∀ k i, i ≤ k → F i ≤ mx F k
  | 0, i, h => by obtain rfl : i = 0 := by omega
                  exact Int.le_refl _
  | k + 1, i, h => by
    unfold mx
    by_cases e : i = k + 1
    · subst e; omega
    · have := mx_ge F k i (by omega); omega
theorem mx_at (F : Nat → Int) : ∀ k, ∃ i, i ≤ k ∧ F i = mx F k
  | 0 => ⟨0, Nat.le_refl _, rfl⟩
  | k + 1 => by
    obtain ⟨i, h1, h2⟩ := mx_at F k
    unfold mx
    by_cases e : mx F k ≤ F (k + 1)
    · exact ⟨k + 1, Nat.le_refl _, by omega⟩
    · exact ⟨i, by omega, by omega⟩

theorem okH_mono {R T H : Nat → Int} {n : Nat} {r t h r' t' h' : Int} (o : okH R T H n r t h) (a : r ≤ r') (b : t ≤ t') (c : h ≤ h') : okH R T H n r' t' h' := fun i hi => by
  have := o i hi; omega
theorem okH_mx (R T H : Nat → Int) {n : Nat} (hn : 0 < n) : okH R T H n (mx R (n - 1)) (mx T (n - 1)) (mx H (n - 1)) := fun i hi =>
  ⟨mx_ge R _ i (by omega), mx_ge T _ i (by omega), mx_ge H _ i (by omega)⟩
theorem okH_less {R T H : Nat → Int} {n : Nat} {r t h : Int} (hn : 0 < n) (o : okH R T H n r t h) : mx R (n - 1) ≤ r ∧ mx T (n - 1) ≤ t ∧ mx H (n - 1) ≤ h := by
  obtain ⟨i, h1, h2⟩ := mx_at R (n - 1)
  obtain ⟨j, h3, h4⟩ := mx_at T (n - 1)
  obtain ⟨k, h5, h6⟩ := mx_at H (n - 1)
  have := o i (by omega); have := o j (by omega); have := o k (by omega)
  omega

/-- A call of Within, by what it says. -/
theorem within_yes {w : World} {a : Addr} {n : Nat} (c : Nat) {R T H : Nat → Int} {r t h : Int} (hw : Harms w a n R T H) (hlt : a.block < w.heap.size) (hn : n ≤ 140737488355328) (o : okH R T H n r t h) :
    Calls Tryz.prog 5 #[.slice (some a) n c, .agg #[.int .i64 r, .int .i64 t, .int .i64 h]] w fun e w' => e = .returned (.bool true) ∧ Below w.heap.size w w' :=
  (within w a n c R T H r t h hw hlt hn).mono fun _ _ ⟨h, hb⟩ => ⟨h.elim And.left fun h => absurd o h.2, hb⟩
theorem within_no {w : World} {a : Addr} {n : Nat} (c : Nat) {R T H : Nat → Int} {r t h : Int} (hw : Harms w a n R T H) (hlt : a.block < w.heap.size) (hn : n ≤ 140737488355328) (o : ¬ okH R T H n r t h) :
    Calls Tryz.prog 5 #[.slice (some a) n c, .agg #[.int .i64 r, .int .i64 t, .int .i64 h]] w fun e w' => e = .returned (.bool false) ∧ Below w.heap.size w w' :=
  (within w a n c R T H r t h hw hlt hn).mono fun _ _ ⟨h, hb⟩ => ⟨h.elim (fun h => absurd h.2 o) And.left, hb⟩

def Fits (F : Nat → Int) (n : Nat) : Prop := ∀ i, i < n → -9223372036854775808 ≤ F i ∧ F i ≤ 9223372036854775807
theorem Fits.mx {F : Nat → Int} {k : Nat} (h : Fits F (k + 1)) : -9223372036854775808 ≤ mx F k ∧ mx F k ≤ 9223372036854775807 := by
  obtain ⟨i, h1, h2⟩ := mx_at F k
  rw [← h2]; exact h i (by omega)

/-- The three cells of a struct, written. -/
structure Set3 (w w' : World) (b : Nat) (v0 v1 v2 : Value) : Prop where
  c0 : w'.cell? ⟨b, 0, none⟩ = some v0
  c1 : w'.cell? ⟨b, 1, none⟩ = some v1
  c2 : w'.cell? ⟨b, 2, none⟩ = some v2
theorem set3 {w : World} {b : Nat} {u0 u1 u2 : Value} (v0 v1 v2 : Value) (h0 : w.cell? ⟨b, 0, none⟩ = some u0) (h1 : w.cell? ⟨b, 1, none⟩ = some u1) (h2 : w.cell? ⟨b, 2, none⟩ = some u2) :
    Set3 w (((w.setCell ⟨b, 0, none⟩ v0).setCell ⟨b, 1, none⟩ v1).setCell ⟨b, 2, none⟩ v2) b v0 v1 v2 := by
  have ne : ∀ i j : Nat, i ≠ j → (⟨b, i, none⟩ : Addr) ≠ ⟨b, j, none⟩ := fun i j h e => h (by injection e)
  have k1 : (w.setCell ⟨b, 0, none⟩ v0).cell? ⟨b, 1, none⟩ = some u1 := (World.cell?_setCell_other _ _ _ _ (ne 0 1 (by decide))).trans h1
  have k2 : ((w.setCell ⟨b, 0, none⟩ v0).setCell ⟨b, 1, none⟩ v1).cell? ⟨b, 2, none⟩ = some u2 := (World.cell?_setCell_other _ _ _ _ (ne 1 2 (by decide))).trans ((World.cell?_setCell_other _ _ _ _ (ne 0 2 (by decide))).trans h2)
  exact ⟨(World.cell?_setCell_other _ _ _ _ (ne 2 0 (by decide))).trans ((World.cell?_setCell_other _ _ _ _ (ne 1 0 (by decide))).trans (World.cell?_setCell_same _ _ _ h0)),
    (World.cell?_setCell_other _ _ _ _ (ne 2 1 (by decide))).trans (World.cell?_setCell_same _ _ _ k1), World.cell?_setCell_same _ _ _ k2⟩

set_option maxRecDepth 100000 in
set_option maxHeartbeats 8000000 in
theorem law_yes {W : World} (g : Globals W) (a : Addr) (n c : Nat) (R T H : Nat → Int) (r t h r' t' h' x : Int) (hw : Harms W a n R T H) (hlt : a.block < W.heap.size) (hn0 : 0 < n) (hn : n ≤ 100) (hR : Fits R n) (hT : Fits T n) (hH : Fits H n) (ho : okH R T H n r t h) :
    Calls Tryz.prog 3 #[.slice (some a) n c, .agg #[.int .i64 r, .int .i64 t, .int .i64 h], .agg #[.int .i64 r', .int .i64 t', .int .i64 h'], .int .i64 x] W fun e w' => e = .returned (.bool true) ∧ Keeps W w' := by
  have C := Lib.hid (sane_behind g r t h r' t' h')
  have HW := Lib.hid hw
  have HL := Lib.hid hlt
  have HO := Lib.hid ho
  have HR := Lib.hid hR
  have HT := Lib.hid hT
  have HH := Lib.hid hH
  have HO2 := Lib.hid (okH_mono ho (Int.le_max_left r r') (Int.le_max_left t t') (Int.le_max_left h h'))
  have z1 : ((n : Int) == 0) = false := by simp; omega
  have z2 : decide ((100 : Int) < (n : Int)) = false := by simp; omega
  clear g hw hlt ho hR hT hH
  go_enter Tryz.func3, Tryz.ntmps3
  go_wp2_with fail
  go_at_call 4; refine C.out.mono ?_; rintro e w4 ⟨rfl, hk, f0, f1, f2, f3, f4, f5, hz, hz0⟩
  have HK := Lib.hid hk
  clear hk
  go_wp2_with fail
  go_at_call 5; refine (within_yes _ (HW.out.keeps (HK.out.alloc _) HL.out) (by have := HK.out.sz; have := HL.out; simp; omega) (by omega) HO.out).mono ?_; rintro e w5 ⟨rfl, hb5⟩; obtain ⟨hc5, _⟩ := bcell hb5; have hz5 := hb5.size; simp only [World.size_alloc] at hz5; have l5 := Nat.lt_of_lt_of_le hz0 (Nat.le_of_succ_le hz5); have HK5 := Lib.hid ((HK.out.alloc _).trans (Keeps.of_below hb5)); clear hb5
  go_wp2_with fail
  go_at_call 5; refine (within_yes _ (HW.out.keeps HK5.out HL.out) (by have := HK5.out.sz; have := HL.out; omega) (by omega) HO2.out).mono ?_; rintro e w6 ⟨rfl, hb6⟩; have HK6 := Lib.hid (HK5.out.trans (Keeps.of_below hb6)); clear hb6 hc5 HK5 f0 f1 f2 f3 f4 f5 hz hz0 hz5 l5
  have HW6 := Lib.hid (HW.out.keeps HK6.out HL.out)
  have q0 : w6.cell? a = some (.int .i64 (R 0)) := (HW6.out 0 hn0).1
  have q1 : w6.cell? ⟨a.block, a.off + 1, none⟩ = some (.int .i64 (T 0)) := (HW6.out 0 hn0).2.1
  have q2 : w6.cell? ⟨a.block, a.off + 2, none⟩ = some (.int .i64 (H 0)) := (HW6.out 0 hn0).2.2
  go_wp2_with fail
  clear q0 q1 q2
  have HB0 := Lib.hid hn0
  clear hn0
  go_loopw [11] (fun i wr => ∃ k : Nat, k < n ∧ i = .int .i64 ((k : Int) + 1) ∧ wr.cell? ⟨w6.heap.size, 0, none⟩ = some (.int .i64 (mx R k)) ∧ wr.cell? ⟨w6.heap.size, 1, none⟩ = some (.int .i64 (mx T k)) ∧ wr.cell? ⟨w6.heap.size, 2, none⟩ = some (.int .i64 (mx H k)) ∧ wr.frozen? ⟨w6.heap.size, 0, none⟩ = false ∧ wr.frozen? ⟨w6.heap.size, 1, none⟩ = false ∧ wr.frozen? ⟨w6.heap.size, 2, none⟩ = false ∧ w6.heap.size < wr.heap.size ∧ Hid (Below w6.heap.size w6 wr)) (fun i _ => n - (intOf i).toNat)
  case atStart => exact ⟨0, HB0.out, rfl, by simp [mx], by simp [mx], by simp [mx], by simp, by simp, by simp, by simp, Lib.hid ((Below.refl _ _).alloc (Nat.le_refl _) _)⟩
  case round =>
    obtain ⟨k, hk, rfl, m0, m1, m2, mf, mg, mh, mz, mb⟩ := hrel
    by_cases hlt2 : k + 1 < n
    · have HWr := Lib.hid (HW6.out.keeps (Keeps.of_below mb.out) (Nat.lt_of_lt_of_le HL.out HK6.out.sz))
      obtain ⟨x0, x1, x2⟩ := HWr.out (k + 1) hlt2
      have e1 : wr.cell? ⟨(a.add ((k + 1) * 3)).block, (a.add ((k + 1) * 3)).off + 1, none⟩ = some (.int .i64 (T (k + 1))) := (cell_at _ _ _ _ (by decide)).trans x1
      have e2 : wr.cell? ⟨(a.add ((k + 1) * 3)).block, (a.add ((k + 1) * 3)).off + 2, none⟩ = some (.int .i64 (H (k + 1))) := (cell_at _ _ _ _ (by decide)).trans x2
      clear x1 x2
      go_wp2_with fail
      have m0' : ({ wr with drawn := wr.drawn + 1 } : World).cell? ⟨w6.heap.size, 0, none⟩ = some (.int .i64 (mx R k)) := m0
      have m1' : ({ wr with drawn := wr.drawn + 1 } : World).cell? ⟨w6.heap.size, 1, none⟩ = some (.int .i64 (mx T k)) := m1
      have m2' : ({ wr with drawn := wr.drawn + 1 } : World).cell? ⟨w6.heap.size, 2, none⟩ = some (.int .i64 (mx H k)) := m2
      have mf' : ({ wr with drawn := wr.drawn + 1 } : World).frozen? ⟨w6.heap.size, 0, none⟩ = false := mf
      have mg' : ({ wr with drawn := wr.drawn + 1 } : World).frozen? ⟨w6.heap.size, 1, none⟩ = false := mg
      have mh' : ({ wr with drawn := wr.drawn + 1 } : World).frozen? ⟨w6.heap.size, 2, none⟩ = false := mh
      have x0' : ({ wr with drawn := wr.drawn + 1 } : World).cell? (a.add ((k + 1) * 3)) = some (.int .i64 (R (k + 1))) := x0
      have e1' : ({ wr with drawn := wr.drawn + 1 } : World).cell? ⟨(a.add ((k + 1) * 3)).block, (a.add ((k + 1) * 3)).off + 1, none⟩ = some (.int .i64 (T (k + 1))) := e1
      have e2' : ({ wr with drawn := wr.drawn + 1 } : World).cell? ⟨(a.add ((k + 1) * 3)).block, (a.add ((k + 1) * 3)).off + 2, none⟩ = some (.int .i64 (H (k + 1))) := e2
      have mz' : w6.heap.size < ({ wr with drawn := wr.drawn + 1 } : World).heap.size := mz
      have mb' : Hid (Below w6.heap.size w6 ({ wr with drawn := wr.drawn + 1 } : World)) := Lib.hid ⟨mb.out.os, mb.out.tape, mb.out.output, mb.out.size, mb.out.block⟩
      clear m0 m1 m2 mf mg mh x0 e1 e2 mz mb
      have hk0 : (0 : Int) ≤ (k : Int) + 1 := by omega
      refine wp_region_still_tail 25 (by kernel_rfl) (by kernel_rfl) ?_
      generalize ({ wr with drawn := wr.drawn + 1 } : World) = w2 at *
      simp only [List.take_succ_cons, List.take_zero, List.drop_succ_cons, List.drop_zero]
      repeat still_step
      try refine wpStill_nil ?_
      go_wp2
      go_roundw
      case rel =>
        have S3 := set3 (.int .i64 (max (mx R k) (R (k + 1)))) (.int .i64 (max (mx T k) (T (k + 1)))) (.int .i64 (max (mx H k) (H (k + 1)))) m0' m1' m2'
        exact ⟨k + 1, hlt2, by go_num, S3.c0, S3.c1, S3.c2, by simpa using mf', by simpa using mg', by simpa using mh', by simpa using mz', Lib.hid (((mb'.out.setCell (Nat.le_refl _) _).setCell (Nat.le_refl _) _).setCell (Nat.le_refl _) _)⟩
      case measure => simp [intOf]; omega
    · obtain rfl : n = k + 1 := by omega
      have HWr := Lib.hid (HW6.out.keeps (Keeps.of_below mb.out) (Nat.lt_of_lt_of_le HL.out HK6.out.sz))
      go_wp2_with fail
      go_at_call 5; refine (within_yes _ HWr.out (Nat.lt_of_lt_of_le (Nat.lt_of_lt_of_le HL.out HK6.out.sz) mb.out.size) (by omega) (okH_mx R T H (n := k + 1) (Nat.succ_pos k))).mono ?_; rintro e w7 ⟨rfl, hb7⟩
      obtain ⟨hc7, _⟩ := bcell hb7
      have p0 : w7.cell? ⟨w6.heap.size, 0, none⟩ = some (.int .i64 (mx R k)) := (hc7 _ _ mz).trans m0
      have p1 : w7.cell? ⟨w6.heap.size, 1, none⟩ = some (.int .i64 (mx T k)) := (hc7 _ _ mz).trans m1
      have p2 : w7.cell? ⟨w6.heap.size, 2, none⟩ = some (.int .i64 (mx H k)) := (hc7 _ _ mz).trans m2
      have HK7 := Lib.hid ((HK6.out.below (mb.out.mono HK6.out.sz)).trans (Keeps.of_below hb7))
      have lt7 : w6.heap.size < w7.heap.size := Nat.lt_of_lt_of_le mz hb7.size
      clear hc7 m0 m1 m2 mf mg mh hb7 mb hlt2
      by_cases hx0 : x = 0
      · subst hx0
        by_cases hmin : mx R k = -9223372036854775808
        · have hz1 : (mx R k == -9223372036854775808) = true := by simp [hmin]
          clear hmin
          go_wp2_with fail
          go_ret
          exact ⟨rfl, HK7.out.alloc _⟩
        · have hz1 : (mx R k == -9223372036854775808) = false := by simp [hmin]
          have bd := (HR.out).mx
          have b1 : -9223372036854775808 < mx R k := by omega
          have b2 : mx R k ≤ 9223372036854775807 := bd.2
          have NO := Lib.hid (show ¬ okH R T H (k + 1) (mx R k - 1) (mx T k) (mx H k) from fun o => by have := okH_less (Nat.succ_pos k) o; simp only [Nat.succ_sub_one] at this; omega)
          clear hmin bd
          go_wp2_with fail
          go_at_call 5; refine (within_no _ (HW.out.keeps (HK7.out.alloc _) HL.out) (by have := HK7.out.sz; have := HL.out; simp; omega) (by omega) NO.out).mono ?_; rintro e w9 ⟨rfl, hb9⟩
          go_wp2_with fail
          go_ret
          exact ⟨rfl, (HK7.out.alloc _).trans (Keeps.of_below hb9)⟩
      · by_cases hx1 : x = 1
        · subst hx1
          by_cases hmin : mx T k = -9223372036854775808
          · have hz1 : (mx T k == -9223372036854775808) = true := by simp [hmin]
            clear hmin
            go_wp2_with fail
            go_ret
            exact ⟨rfl, HK7.out.alloc _⟩
          · have hz1 : (mx T k == -9223372036854775808) = false := by simp [hmin]
            have bd := (HT.out).mx
            have b1 : -9223372036854775808 < mx T k := by omega
            have b2 : mx T k ≤ 9223372036854775807 := bd.2
            have NO := Lib.hid (show ¬ okH R T H (k + 1) (mx R k) (mx T k - 1) (mx H k) from fun o => by have := okH_less (Nat.succ_pos k) o; simp only [Nat.succ_sub_one] at this; omega)
            clear hmin bd
            go_wp2_with fail
            go_at_call 5; refine (within_no _ (HW.out.keeps (HK7.out.alloc _) HL.out) (by have := HK7.out.sz; have := HL.out; simp; omega) (by omega) NO.out).mono ?_; rintro e w9 ⟨rfl, hb9⟩
            go_wp2_with fail
            go_ret
            exact ⟨rfl, (HK7.out.alloc _).trans (Keeps.of_below hb9)⟩
        · have hb0 : (x == 0) = false := by simp [hx0]
          have hb1 : (x == 1) = false := by simp [hx1]
          clear hx0 hx1
          by_cases hmin : mx H k = -9223372036854775808
          · have hz1 : (mx H k == -9223372036854775808) = true := by simp [hmin]
            clear hmin
            go_wp2_with fail
            go_ret
            exact ⟨rfl, HK7.out.alloc _⟩
          · have hz1 : (mx H k == -9223372036854775808) = false := by simp [hmin]
            have bd := (HH.out).mx
            have b1 : -9223372036854775808 < mx H k := by omega
            have b2 : mx H k ≤ 9223372036854775807 := bd.2
            have NO := Lib.hid (show ¬ okH R T H (k + 1) (mx R k) (mx T k) (mx H k - 1) from fun o => by have := okH_less (Nat.succ_pos k) o; simp only [Nat.succ_sub_one] at this; omega)
            clear hmin bd
            go_wp2_with fail
            go_at_call 5; refine (within_no _ (HW.out.keeps (HK7.out.alloc _) HL.out) (by have := HK7.out.sz; have := HL.out; simp; omega) (by omega) NO.out).mono ?_; rintro e w9 ⟨rfl, hb9⟩
            go_wp2_with fail
            go_ret
            exact ⟨rfl, (HK7.out.alloc _).trans (Keeps.of_below hb9)⟩

set_option maxRecDepth 100000 in
set_option maxHeartbeats 8000000 in
theorem law_no {W : World} (g : Globals W) (a : Addr) (n c : Nat) (R T H : Nat → Int) (r t h r' t' h' x : Int) (hw : Harms W a n R T H) (hlt : a.block < W.heap.size) (hn0 : 0 < n) (hn : n ≤ 100) (hR : Fits R n) (hT : Fits T n) (hH : Fits H n) (ho : ¬ okH R T H n r t h) :
    Calls Tryz.prog 3 #[.slice (some a) n c, .agg #[.int .i64 r, .int .i64 t, .int .i64 h], .agg #[.int .i64 r', .int .i64 t', .int .i64 h'], .int .i64 x] W fun e w' => e = .returned (.bool true) ∧ Keeps W w' := by
  have C := Lib.hid (sane_behind g r t h r' t' h')
  have HW := Lib.hid hw
  have HL := Lib.hid hlt
  have HO := Lib.hid ho
  have HR := Lib.hid hR
  have HT := Lib.hid hT
  have HH := Lib.hid hH
  have z1 : ((n : Int) == 0) = false := by simp; omega
  have z2 : decide ((100 : Int) < (n : Int)) = false := by simp; omega
  clear g hw hlt ho hR hT hH
  go_enter Tryz.func3, Tryz.ntmps3
  go_wp2_with fail
  go_at_call 4; refine C.out.mono ?_; rintro e w4 ⟨rfl, hk, f0, f1, f2, f3, f4, f5, hz, hz0⟩
  have HK := Lib.hid hk
  clear hk
  go_wp2_with fail
  go_at_call 5; refine (within_no _ (HW.out.keeps (HK.out.alloc _) HL.out) (by have := HK.out.sz; have := HL.out; simp; omega) (by omega) HO.out).mono ?_; rintro e w6 ⟨rfl, hb6⟩; have HK6 := Lib.hid ((HK.out.alloc _).trans (Keeps.of_below hb6)); clear hb6 f0 f1 f2 f3 f4 f5 hz hz0
  have HW6 := Lib.hid (HW.out.keeps HK6.out HL.out)
  have q0 : w6.cell? a = some (.int .i64 (R 0)) := (HW6.out 0 hn0).1
  have q1 : w6.cell? ⟨a.block, a.off + 1, none⟩ = some (.int .i64 (T 0)) := (HW6.out 0 hn0).2.1
  have q2 : w6.cell? ⟨a.block, a.off + 2, none⟩ = some (.int .i64 (H 0)) := (HW6.out 0 hn0).2.2
  go_wp2_with fail
  clear q0 q1 q2
  have HB0 := Lib.hid hn0
  clear hn0
  go_loopw [11] (fun i wr => ∃ k : Nat, k < n ∧ i = .int .i64 ((k : Int) + 1) ∧ wr.cell? ⟨w6.heap.size, 0, none⟩ = some (.int .i64 (mx R k)) ∧ wr.cell? ⟨w6.heap.size, 1, none⟩ = some (.int .i64 (mx T k)) ∧ wr.cell? ⟨w6.heap.size, 2, none⟩ = some (.int .i64 (mx H k)) ∧ wr.frozen? ⟨w6.heap.size, 0, none⟩ = false ∧ wr.frozen? ⟨w6.heap.size, 1, none⟩ = false ∧ wr.frozen? ⟨w6.heap.size, 2, none⟩ = false ∧ w6.heap.size < wr.heap.size ∧ Hid (Below w6.heap.size w6 wr)) (fun i _ => n - (intOf i).toNat)
  case atStart => exact ⟨0, HB0.out, rfl, by simp [mx], by simp [mx], by simp [mx], by simp, by simp, by simp, by simp, Lib.hid ((Below.refl _ _).alloc (Nat.le_refl _) _)⟩
  case round =>
    obtain ⟨k, hk, rfl, m0, m1, m2, mf, mg, mh, mz, mb⟩ := hrel
    by_cases hlt2 : k + 1 < n
    · have HWr := Lib.hid (HW6.out.keeps (Keeps.of_below mb.out) (Nat.lt_of_lt_of_le HL.out HK6.out.sz))
      obtain ⟨x0, x1, x2⟩ := HWr.out (k + 1) hlt2
      have e1 : wr.cell? ⟨(a.add ((k + 1) * 3)).block, (a.add ((k + 1) * 3)).off + 1, none⟩ = some (.int .i64 (T (k + 1))) := (cell_at _ _ _ _ (by decide)).trans x1
      have e2 : wr.cell? ⟨(a.add ((k + 1) * 3)).block, (a.add ((k + 1) * 3)).off + 2, none⟩ = some (.int .i64 (H (k + 1))) := (cell_at _ _ _ _ (by decide)).trans x2
      clear x1 x2
      go_wp2_with fail
      have m0' : ({ wr with drawn := wr.drawn + 1 } : World).cell? ⟨w6.heap.size, 0, none⟩ = some (.int .i64 (mx R k)) := m0
      have m1' : ({ wr with drawn := wr.drawn + 1 } : World).cell? ⟨w6.heap.size, 1, none⟩ = some (.int .i64 (mx T k)) := m1
      have m2' : ({ wr with drawn := wr.drawn + 1 } : World).cell? ⟨w6.heap.size, 2, none⟩ = some (.int .i64 (mx H k)) := m2
      have mf' : ({ wr with drawn := wr.drawn + 1 } : World).frozen? ⟨w6.heap.size, 0, none⟩ = false := mf
      have mg' : ({ wr with drawn := wr.drawn + 1 } : World).frozen? ⟨w6.heap.size, 1, none⟩ = false := mg
      have mh' : ({ wr with drawn := wr.drawn + 1 } : World).frozen? ⟨w6.heap.size, 2, none⟩ = false := mh
      have x0' : ({ wr with drawn := wr.drawn + 1 } : World).cell? (a.add ((k + 1) * 3)) = some (.int .i64 (R (k + 1))) := x0
      have e1' : ({ wr with drawn := wr.drawn + 1 } : World).cell? ⟨(a.add ((k + 1) * 3)).block, (a.add ((k + 1) * 3)).off + 1, none⟩ = some (.int .i64 (T (k + 1))) := e1
      have e2' : ({ wr with drawn := wr.drawn + 1 } : World).cell? ⟨(a.add ((k + 1) * 3)).block, (a.add ((k + 1) * 3)).off + 2, none⟩ = some (.int .i64 (H (k + 1))) := e2
      have mz' : w6.heap.size < ({ wr with drawn := wr.drawn + 1 } : World).heap.size := mz
      have mb' : Hid (Below w6.heap.size w6 ({ wr with drawn := wr.drawn + 1 } : World)) := Lib.hid ⟨mb.out.os, mb.out.tape, mb.out.output, mb.out.size, mb.out.block⟩
      clear m0 m1 m2 mf mg mh x0 e1 e2 mz mb
      have hk0 : (0 : Int) ≤ (k : Int) + 1 := by omega
      refine wp_region_still_tail 25 (by kernel_rfl) (by kernel_rfl) ?_
      generalize ({ wr with drawn := wr.drawn + 1 } : World) = w2 at *
      simp only [List.take_succ_cons, List.take_zero, List.drop_succ_cons, List.drop_zero]
      repeat still_step
      try refine wpStill_nil ?_
      go_wp2
      go_roundw
      case rel =>
        have S3 := set3 (.int .i64 (max (mx R k) (R (k + 1)))) (.int .i64 (max (mx T k) (T (k + 1)))) (.int .i64 (max (mx H k) (H (k + 1)))) m0' m1' m2'
        exact ⟨k + 1, hlt2, by go_num, S3.c0, S3.c1, S3.c2, by simpa using mf', by simpa using mg', by simpa using mh', by simpa using mz', Lib.hid (((mb'.out.setCell (Nat.le_refl _) _).setCell (Nat.le_refl _) _).setCell (Nat.le_refl _) _)⟩
      case measure => simp [intOf]; omega
    · obtain rfl : n = k + 1 := by omega
      have HWr := Lib.hid (HW6.out.keeps (Keeps.of_below mb.out) (Nat.lt_of_lt_of_le HL.out HK6.out.sz))
      go_wp2_with fail
      go_at_call 5; refine (within_yes _ HWr.out (Nat.lt_of_lt_of_le (Nat.lt_of_lt_of_le HL.out HK6.out.sz) mb.out.size) (by omega) (okH_mx R T H (n := k + 1) (Nat.succ_pos k))).mono ?_; rintro e w7 ⟨rfl, hb7⟩
      obtain ⟨hc7, _⟩ := bcell hb7
      have p0 : w7.cell? ⟨w6.heap.size, 0, none⟩ = some (.int .i64 (mx R k)) := (hc7 _ _ mz).trans m0
      have p1 : w7.cell? ⟨w6.heap.size, 1, none⟩ = some (.int .i64 (mx T k)) := (hc7 _ _ mz).trans m1
      have p2 : w7.cell? ⟨w6.heap.size, 2, none⟩ = some (.int .i64 (mx H k)) := (hc7 _ _ mz).trans m2
      have HK7 := Lib.hid ((HK6.out.below (mb.out.mono HK6.out.sz)).trans (Keeps.of_below hb7))
      have lt7 : w6.heap.size < w7.heap.size := Nat.lt_of_lt_of_le mz hb7.size
      clear hc7 m0 m1 m2 mf mg mh hb7 mb hlt2
      by_cases hx0 : x = 0
      · subst hx0
        by_cases hmin : mx R k = -9223372036854775808
        · have hz1 : (mx R k == -9223372036854775808) = true := by simp [hmin]
          clear hmin
          go_wp2_with fail
          go_ret
          exact ⟨rfl, HK7.out.alloc _⟩
        · have hz1 : (mx R k == -9223372036854775808) = false := by simp [hmin]
          have bd := (HR.out).mx
          have b1 : -9223372036854775808 < mx R k := by omega
          have b2 : mx R k ≤ 9223372036854775807 := bd.2
          have NO := Lib.hid (show ¬ okH R T H (k + 1) (mx R k - 1) (mx T k) (mx H k) from fun o => by have := okH_less (Nat.succ_pos k) o; simp only [Nat.succ_sub_one] at this; omega)
          clear hmin bd
          go_wp2_with fail
          go_at_call 5; refine (within_no _ (HW.out.keeps (HK7.out.alloc _) HL.out) (by have := HK7.out.sz; have := HL.out; simp; omega) (by omega) NO.out).mono ?_; rintro e w9 ⟨rfl, hb9⟩
          go_wp2_with fail
          go_ret
          exact ⟨rfl, (HK7.out.alloc _).trans (Keeps.of_below hb9)⟩
      · by_cases hx1 : x = 1
        · subst hx1
          by_cases hmin : mx T k = -9223372036854775808
          · have hz1 : (mx T k == -9223372036854775808) = true := by simp [hmin]
            clear hmin
            go_wp2_with fail
            go_ret
            exact ⟨rfl, HK7.out.alloc _⟩
          · have hz1 : (mx T k == -9223372036854775808) = false := by simp [hmin]
            have bd := (HT.out).mx
            have b1 : -9223372036854775808 < mx T k := by omega
            have b2 : mx T k ≤ 9223372036854775807 := bd.2
            have NO := Lib.hid (show ¬ okH R T H (k + 1) (mx R k) (mx T k - 1) (mx H k) from fun o => by have := okH_less (Nat.succ_pos k) o; simp only [Nat.succ_sub_one] at this; omega)
            clear hmin bd
            go_wp2_with fail
            go_at_call 5; refine (within_no _ (HW.out.keeps (HK7.out.alloc _) HL.out) (by have := HK7.out.sz; have := HL.out; simp; omega) (by omega) NO.out).mono ?_; rintro e w9 ⟨rfl, hb9⟩
            go_wp2_with fail
            go_ret
            exact ⟨rfl, (HK7.out.alloc _).trans (Keeps.of_below hb9)⟩
        · have hb0 : (x == 0) = false := by simp [hx0]
          have hb1 : (x == 1) = false := by simp [hx1]
          clear hx0 hx1
          by_cases hmin : mx H k = -9223372036854775808
          · have hz1 : (mx H k == -9223372036854775808) = true := by simp [hmin]
            clear hmin
            go_wp2_with fail
            go_ret
            exact ⟨rfl, HK7.out.alloc _⟩
          · have hz1 : (mx H k == -9223372036854775808) = false := by simp [hmin]
            have bd := (HH.out).mx
            have b1 : -9223372036854775808 < mx H k := by omega
            have b2 : mx H k ≤ 9223372036854775807 := bd.2
            have NO := Lib.hid (show ¬ okH R T H (k + 1) (mx R k) (mx T k) (mx H k - 1) from fun o => by have := okH_less (Nat.succ_pos k) o; simp only [Nat.succ_sub_one] at this; omega)
            clear hmin bd
            go_wp2_with fail
            go_at_call 5; refine (within_no _ (HW.out.keeps (HK7.out.alloc _) HL.out) (by have := HK7.out.sz; have := HL.out; simp; omega) (by omega) NO.out).mono ?_; rintro e w9 ⟨rfl, hb9⟩
            go_wp2_with fail
            go_ret
            exact ⟨rfl, (HK7.out.alloc _).trans (Keeps.of_below hb9)⟩
end Go.Proofs.YtnkipokbghnjcaaGreatDoor
