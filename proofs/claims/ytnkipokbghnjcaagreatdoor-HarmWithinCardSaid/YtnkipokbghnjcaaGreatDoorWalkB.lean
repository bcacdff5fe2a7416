/-
  The contract of sane(), out of the evaluator's word: it returns true and leaves what was in memory as it was. · The law's own walk.
-/
import Derived.Test.YtnkipokbghnjcaaGreatDoorDoorG
import Derived.Test.YtnkipokbghnjcaaGreatDoorWalkA
/-! The contract of sane(), out of the evaluator's word: it returns true and leaves what was in memory as it was. -/
namespace Go.Proofs.YtnkipokbghnjcaaGreatDoor
open Go.Ev
open Go.RowKit (Below)

def lensL : List Value := [.int .i64 31, .int .i64 29, .int .i64 31, .int .i64 30, .int .i64 31, .int .i64 30, .int .i64 31, .int .i64 31, .int .i64 30, .int .i64 31, .int .i64 30, .int .i64 31]

/-- What sane() reads of the package's variables. -/
structure Globals (w : World) : Prop where
  size : 7 ≤ w.heap.size
  l : w.heap[1]? = some (.cells lensL.toArray 347 (0, 0))
  m : ∃ c t m, w.heap[4]? = some (.cells c t (0, 0)) ∧ c[0]? = some (.int .i64 m)

/-- All that lay in memory lies there as it lay. -/
structure Keeps (w w' : World) : Prop where
  os : w'.os = w.os
  outp : w'.output = w.output
  sz : w.heap.size ≤ w'.heap.size
  heap : ∀ i, i < w.heap.size → w'.heap[i]? = w.heap[i]?

theorem Keeps.refl (w : World) : Keeps w w := ⟨rfl, rfl, Nat.le_refl _, fun _ _ => rfl⟩
theorem Keeps.trans {a b c : World} (h : Keeps a b) (k : Keeps b c) : Keeps a c :=
  ⟨k.os.trans h.os, k.outp.trans h.outp, Nat.le_trans h.sz k.sz, fun i hi => (k.heap i (Nat.lt_of_lt_of_le hi h.sz)).trans (h.heap i hi)⟩
theorem Keeps.below {a b c : World} (h : Keeps a b) (k : Below a.heap.size b c) : Keeps a c :=
  ⟨k.os.trans h.os, k.output.trans h.outp, Nat.le_trans h.sz k.size, fun i hi => (k.block i hi).trans (h.heap i hi)⟩
theorem Keeps.cell {w w' : World} (h : Keeps w w') {b o : Nat} (hb : b < w.heap.size) : w'.cell? ⟨b, o, none⟩ = w.cell? ⟨b, o, none⟩ := by
  unfold World.cell?
  simp only [h.heap b hb]
theorem Keeps.of_below {w w' : World} (h : Below w.heap.size w w') : Keeps w w' := (Keeps.refl w).below h

def mu0 : Mu := fun b => if b < 7 then some ⟨b, 0, 0⟩ else none

theorem hst_nx : hst.nx = 7 := by kernel_rfl
theorem hst_1 : hst.get 1 = some (.cells lensL 347) := by kernel_rfl
theorem hst_0 : hst.get 0 = some .dead := by kernel_rfl
theorem hst_2 : hst.get 2 = some .dead := by kernel_rfl
theorem hst_3 : hst.get 3 = some .dead := by kernel_rfl
theorem hst_4 : hst.get 4 = some .dead := by kernel_rfl
theorem hst_5 : hst.get 5 = some .dead := by kernel_rfl
theorem hst_6 : hst.get 6 = some .dead := by kernel_rfl
theorem hst_live {b : Nat} {o : AObj} (h : hst.get b = some o) (hd : o.isDead = false) : b = 1 ∧ o = .cells lensL 347 := by
  have hlt := Hp.get_lt h
  rw [hst_nx] at hlt
  have no : ∀ {x}, hst.get x = some .dead → b = x → False := fun hx e => by
    subst e; rw [hx] at h; cases h; cases hd
  rcases (show b = 0 ∨ b = 1 ∨ b = 2 ∨ b = 3 ∨ b = 4 ∨ b = 5 ∨ b = 6 by omega) with e | e | e | e | e | e | e
  · exact (no hst_0 e).elim
  · subst e; rw [hst_1] at h; cases h; exact ⟨rfl, rfl⟩
  · exact (no hst_2 e).elim
  · exact (no hst_3 e).elim
  · exact (no hst_4 e).elim
  · exact (no hst_5 e).elim
  · exact (no hst_6 e).elim

theorem nglob : Tryz.prog.globals.size = 7 := by kernel_rfl
theorem np0 : pinG Tryz.prog 0 = false := by kernel_rfl
theorem np1 : pinG Tryz.prog 1 = false := by kernel_rfl
theorem np2 : pinG Tryz.prog 2 = false := by kernel_rfl
theorem np3 : pinG Tryz.prog 3 = false := by kernel_rfl
theorem np5 : pinG Tryz.prog 5 = false := by kernel_rfl
theorem np6 : pinG Tryz.prog 6 = false := by kernel_rfl
theorem pin_only {g : Nat} (h : pinG Tryz.prog g = true) : g = 4 := by
  have hlt : g < 7 := by
    rw [← nglob]
    unfold pinG at h
    split at h
    · rename_i x hx; exact (Array.getElem?_eq_some_iff.1 hx).1
    · cases h
  have no : ∀ {x}, pinG Tryz.prog x = false → g = x → False := fun hx e => by
    subst e; rw [hx] at h; cases h
  rcases (show g = 0 ∨ g = 1 ∨ g = 2 ∨ g = 3 ∨ g = 4 ∨ g = 5 ∨ g = 6 by omega) with e | e | e | e | e | e | e
  · exact (no np0 e).elim
  · exact (no np1 e).elim
  · exact (no np2 e).elim
  · exact (no np3 e).elim
  · exact e
  · exact (no np5 e).elim
  · exact (no np6 e).elim

theorem info347 : (Tryz.prog.info? 347).isSome = true := by kernel_rfl

theorem lens_gr : ∀ v ∈ lensL, gr 1 v = true := by decide +kernel

theorem okm0 {w : World} (g : Globals w) : OKm Tryz.prog 7 mu0 hst w := by
  obtain ⟨i, hi⟩ := Option.isSome_iff_exists.1 info347
  refine ⟨⟨fun b o h hd => ?_, fun b1 b2 l1 l2 ⟨o1, h1, d1⟩ ⟨o2, h2, d2⟩ _ _ _ => by rw [(hst_live h1 d1).1, (hst_live h2 d2).1], by rw [hst_nx]; decide⟩, fun b hb => ?_, fun x hx => by simp [mu0, hx], fun x hx => ?_⟩
  · obtain ⟨rfl, rfl⟩ := hst_live h hd
    refine ⟨⟨1, 0, 0⟩, _, by simp [mu0], g.l, .cells hi (by simp [lensL]) fun j v hv => ⟨v, by simpa using hv, gr_refl 1 v (lens_gr v (List.mem_of_getElem? hv))⟩⟩
  · rw [hst_nx] at hb
    have : ¬ b < 7 := by omega
    simp [mu0, this]
  · obtain rfl := pin_only hx
    refine ⟨fun b l ⟨o, hb, hd⟩ hm he => ?_, ?_⟩
    · obtain ⟨rfl, _⟩ := hst_live hb hd
      simp only [mu0, show (1 : Nat) < 7 by decide, if_true, Option.some.injEq] at hm
      subst hm
      simp at he
    · obtain ⟨c, t, m, h1, h2⟩ := g.m
      exact ⟨c, t, m, h1, h2⟩

/-- **sane()**. -/
theorem sane_calls {w : World} (g : Globals w) : Calls Tryz.prog 4 #[] w fun e w' => e = .returned (.bool true) ∧ Keeps w w' := by
  intro cs
  obtain ⟨r, μ, w', u, e, fr, hm, hd, hst, hk, hfn, hgo⟩ := Go.Ev.sane_ok mu0 w [] cs .run (okm0 g) (LR.nil _) (by simp) (by simp)
  simp only [List.mem_singleton] at hm
  subst hm
  cases hd with
  | ret ho hf hv _ =>
    cases hv
    rw [setMd_false, setMd_false] at hst
    have keep : Keeps w w' := by
      refine ⟨hf.wk.os, hf.wk.outp, hf.sz, fun i hi => ?_⟩
      by_cases h1 : i = 1
      · subst h1
        obtain ⟨l, o', k1, k2, k3⟩ := ho.wr.live 1 _ hst_1 rfl
        have hl : l = ⟨1, 0, 0⟩ := by
          have := hf.le 1 ⟨1, 0, 0⟩ (by simp [mu0])
          rw [this] at k1; cases k1; rfl
        subst hl
        obtain ⟨c', q1, q2⟩ := hf.wk.row 1 _ _ _ g.l
        simp only at k2
        rw [q1] at k2; cases k2
        cases k3 with
        | cells a b c =>
          have hc : c' = lensL.toArray := by
            apply Array.ext
            · exact q2
            · intro j j1 j2
              have hj : lensL[j]? = some lensL[j] := List.getElem?_eq_getElem (by simpa using j2)
              obtain ⟨y, y1, y2⟩ := c j _ hj
              have e1 := gr_eq 1 _ _ (lens_gr _ (List.mem_of_getElem? hj)) y2
              subst e1
              simp only [Nat.zero_add] at y1
              rw [Array.getElem?_eq_getElem j1] at y1
              simpa using Option.some.inj y1
          exact q1.trans ((congrArg (fun x => some (Obj.cells x 347 (0, 0))) hc).trans g.l.symm)
      · refine hf.keep i hi fun b l ⟨o, hb, hd⟩ hm he => ?_
        obtain ⟨rfl, _⟩ := hst_live hb hd
        simp only [mu0, show (1 : Nat) < 7 by decide, if_true, Option.some.injEq] at hm
        subst hm
        exact h1 he.symm
    exact ⟨_, w', fr, ⟨rfl, keep⟩, hst, hfn, hgo.1, hgo.2.1, hk, hgo.2.2⟩
end Go.Proofs.YtnkipokbghnjcaaGreatDoor

/-! The law's own walk. -/
namespace Go.Proofs.YtnkipokbghnjcaaGreatDoor
open Go.RowKit

theorem Globals.alloc {w : World} (g : Globals w) (o : Obj) : Globals (w.alloc o) := by
  have e : ∀ {i x}, w.heap[i]? = some x → (w.alloc o).heap[i]? = some x := fun {i x} h => by
    have hi := (Array.getElem?_eq_some_iff.1 h).1
    unfold World.alloc
    show (w.heap.push o)[i]? = _
    rw [Array.getElem?_push_lt hi]; rw [Array.getElem?_eq_getElem hi] at h; exact h
  obtain ⟨c, t, m, h1, h2⟩ := g.m
  exact ⟨by have := g.size; simp; omega, e g.l, c, t, m, e h1, h2⟩
theorem Keeps.alloc {a b : World} (h : Keeps a b) (o : Obj) : Keeps a (b.alloc o) :=
  h.below ((Below.refl _ _).alloc h.sz o)
theorem Harms.keeps {w w' : World} {a : Addr} {n : Nat} {R T H : Nat → Int} (h : Harms w a n R T H) (k : Keeps w w') (hlt : a.block < w.heap.size) : Harms w' a n R T H := fun i hi => by
  have e : ∀ m, w'.cell? (a.add m) = w.cell? (a.add m) := fun m => by
    have hblk : (a.add m).block = a.block := by unfold Addr.add; split <;> rfl
    unfold World.cell?
    rw [k.heap _ (by rw [hblk]; exact hlt)]
  obtain ⟨h0, h1, h2⟩ := h i hi
  exact ⟨(e _).trans h0, (e _).trans h1, (e _).trans h2⟩

/-- Behind sane(): the two boxes. -/
structure Behind (W w : World) (r t h r' t' h' : Int) : Prop where
  k : Keeps W w
  a0 : w.cell? ⟨W.heap.size, 0, none⟩ = some (.int .i64 r)
  a1 : w.cell? ⟨W.heap.size, 1, none⟩ = some (.int .i64 t)
  a2 : w.cell? ⟨W.heap.size, 2, none⟩ = some (.int .i64 h)
  b0 : w.cell? ⟨W.heap.size + 1, 0, none⟩ = some (.int .i64 r')
  b1 : w.cell? ⟨W.heap.size + 1, 1, none⟩ = some (.int .i64 t')
  b2 : w.cell? ⟨W.heap.size + 1, 2, none⟩ = some (.int .i64 h')
  z : W.heap.size + 1 < w.heap.size
  z0 : W.heap.size < w.heap.size

theorem sane_behind {W : World} (g : Globals W) (r t h r' t' h' : Int) :
    Calls Tryz.prog 4 #[] ((W.alloc (.cells #[.int .i64 r, .int .i64 t, .int .i64 h] 24)).alloc (.cells #[.int .i64 r', .int .i64 t', .int .i64 h'] 24)) fun e w' => e = .returned (.bool true) ∧ Behind W w' r t h r' t' h' := by
  refine (sane_calls ((g.alloc _).alloc _)).mono fun e w' ⟨he, k⟩ => ⟨he, ?_⟩
  have hz := k.sz
  simp only [World.size_alloc] at hz
  have c : ∀ b o, b < W.heap.size + 1 + 1 → w'.cell? ⟨b, o, none⟩ = _ := fun b o hb => k.cell (by simp; omega)
  refine ⟨(((Keeps.refl W).alloc _).alloc _).trans k, ?_, ?_, ?_, ?_, ?_, ?_, by omega, by omega⟩
  all_goals
    rw [c _ _ (by omega)]
    simp

set_option maxRecDepth 100000 in
set_option maxHeartbeats 4000000 in
theorem law_long {W : World} (g : Globals W) (p : Option Addr) (n c : Nat) (r t h r' t' h' x : Int) (hn : 100 < n) :
    Calls Tryz.prog 3 #[.slice p n c, .agg #[.int .i64 r, .int .i64 t, .int .i64 h], .agg #[.int .i64 r', .int .i64 t', .int .i64 h'], .int .i64 x] W fun e w' => e = .returned (.bool true) ∧ Keeps W w' := by
  have C := Lib.hid (sane_behind g r t h r' t' h')
  clear g
  go_enter Tryz.func3, Tryz.ntmps3
  go_wp2_with (go_at_call 4; refine C.out.mono ?_; rintro e w4 ⟨rfl, hk, f0, f1, f2, f3, f4, f5, hz, hz0⟩)
  go_ret
  exact ⟨rfl, hk⟩

set_option maxHeartbeats 4000000 in
theorem within0 (w : World) (p : Option Addr) (c : Nat) (r t h : Int) :
    Calls Tryz.prog 5 #[.slice p 0 c, .agg #[.int .i64 r, .int .i64 t, .int .i64 h]] w fun e w' => e = .returned (.bool true) ∧ Below w.heap.size w w' := by
  go_enter Tryz.func5, Tryz.ntmps5
  go_wp2
  refine wp_loop_rounds 1 ?_
  rw [rounds_succ]
  go_wp2
  go_ret
  exact ⟨rfl, (Below.refl _ _).alloc (Nat.le_refl _) _⟩

set_option maxRecDepth 100000 in
set_option maxHeartbeats 4000000 in
theorem law_zero {W : World} (g : Globals W) (p : Option Addr) (c : Nat) (r t h r' t' h' x : Int) :
    Calls Tryz.prog 3 #[.slice p 0 c, .agg #[.int .i64 r, .int .i64 t, .int .i64 h], .agg #[.int .i64 r', .int .i64 t', .int .i64 h'], .int .i64 x] W fun e w' => e = .returned (.bool true) ∧ Keeps W w' := by
  have C := Lib.hid (sane_behind g r t h r' t' h')
  clear g
  go_enter Tryz.func3, Tryz.ntmps3
  go_wp2_with (go_at_call 4; refine C.out.mono ?_; rintro e w4 ⟨rfl, hk, f0, f1, f2, f3, f4, f5, hz, hz0⟩)
  have HK := Lib.hid hk
  clear hk
  go_wp2_with fail
  go_at_call 5; refine (within0 _ _ _ _ _ _).mono ?_; rintro e w5 ⟨rfl, hb5⟩; obtain ⟨hc5, _⟩ := bcell hb5; have hz5 := hb5.size; simp only [World.size_alloc] at hz5; have l5 := Nat.lt_of_lt_of_le hz0 (Nat.le_of_succ_le hz5); have HB5 := Lib.hid hb5; clear hb5
  go_wp2_with fail
  go_at_call 5; refine (within0 _ _ _ _ _ _).mono ?_; rintro e w6 ⟨rfl, hb6⟩; obtain ⟨hc6, _⟩ := bcell hb6; have HB6 := Lib.hid hb6; clear hb6
  go_wp2_with fail
  go_at_call 5; refine (within0 _ _ _ _ _ _).mono ?_; rintro e w7 ⟨rfl, hb7⟩
  go_wp2_with fail
  go_ret
  exact ⟨rfl, ((((HK.out.alloc _).trans (Keeps.of_below HB5.out)).trans (Keeps.of_below HB6.out)).trans (Keeps.of_below hb7))⟩
end Go.Proofs.YtnkipokbghnjcaaGreatDoor
