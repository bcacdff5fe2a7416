/-
  The row of HarmWithin.
-/
import Derived.Test.YtnkipokbghnjcaaGreatDoorWalkD
/-! The row of HarmWithin. -/
namespace Go.Proofs.YtnkipokbghnjcaaGreatDoor
open Go.ChangeShapes Go.WideShapes Go.ChangeAt Go.RowKit Go.Deep Go.Joins

section
variable {H : Type} {enc : TypeId × Value → H} {P : Program} {w : World} {base : Nat} {spare : Nat → Bool} {held : Bool}
theorem open_slice_fields {t e : TypeId} {fs : Array Field} {fuel : Nat} {cs : List Value} {x : DataW H × List MemPlace} (ht : P.underlying t = some (.slice e)) (he : P.underlying e = some (.struct fs))
    (hone : oneCellFields P fs = true) (hC : P.cellsOf e = fs.size) (h : DataW.trod enc P w base spare held fuel t cs = some x) :
    (cs = [.slice none 0 0] ∧ x = (.nil, [])) ∨
    ∃ (a : Addr) (len cap m : Nat) (D : Nat → DataW H) (Pl : Nat → List MemPlace), cs = [.slice (some a) len cap] ∧ base ≤ a.block ∧ len ≤ cap ∧ cap ≤ maxLen ∧ m = (if spare a.block then cap else len) ∧
      x = (.slice ((List.range len).map D) ((List.range (m - len)).map fun j => D (len + j)), MemPlace.row a (m * fs.size) ++ (List.range m).flatMap Pl) ∧
      ∀ i, i < m → ∃ (ys : List (DataW H × List MemPlace)) (n : Nat), D i = .agg (ys.map (·.1)) ∧ Pl i = ys.flatMap (·.2) ∧ ys.length = fs.size ∧
        ∀ (j : Nat) (f : Field), fs[j]? = some f → ∃ (v : Value) (y : DataW H × List MemPlace), w.cell? (a.add (i * fs.size + j)) = some v ∧ ys[j]? = some y ∧ DataW.trod enc P w base spare held n f.type [v] = some y := by
  rcases open_slice ht h with h0 | ⟨a, len, cap, m, n, D, Pl, hcs, hb, hl, hm, hmm, hx, hi⟩
  · exact .inl h0
  · refine .inr ⟨a, len, cap, m, D, Pl, hcs, hb, hl, hm, hmm, by rw [hC] at hx; exact hx, fun i him => ?_⟩
    obtain ⟨cs', hc, ht'⟩ := hi i him
    rw [hC] at hc
    obtain ⟨ys, n', hn', hy, hlen, hyl, hf⟩ := DataW.trod_struct he ht'
    obtain ⟨_, hcl, hat⟩ := World.cells?_some hc
    simp only [Prod.mk.injEq] at hy
    refine ⟨ys, n', hy.1, hy.2, hyl, fun j f hj => ?_⟩
    obtain ⟨ho, hk⟩ := hone_of hone j f hj
    have hjl : j < fs.size := (Array.getElem?_eq_some_iff.1 hj).1
    have hcell := hat j hjl
    have hv : cs'[j]? = some (cs'[j]'(by omega)) := List.getElem?_eq_getElem (by omega)
    have h1 := hf j f hj
    rw [ho, hk] at h1
    have hone' : (cs'.drop j).take 1 = [cs'[j]'(by omega)] := by
      rw [List.drop_eq_getElem_cons (by omega)]
      rfl
    rw [hone'] at h1
    have hys : ys[j]? = some (ys[j]'(by omega)) := List.getElem?_eq_getElem (by omega)
    refine ⟨_, _, ?_, hys, h1.trans hys⟩
    rw [← Go.Deep.add_add, hcell, hv]
end

theorem hone24 : oneCellFields Tryz.prog #[{ name := "Rest", type := 3, offset := 0, embedded := false, tag := "", pkgPath := "", byteOffset := 0 }, { name := "Travel", type := 3, offset := 1, embedded := false, tag := "", pkgPath := "", byteOffset := 8 }, { name := "Home", type := 3, offset := 2, embedded := false, tag := "", pkgPath := "", byteOffset := 16 }] = true := by kernel_rfl
theorem rr22 : Tryz.prog.readableRec 22 = true := by kernel_rfl
theorem rr24 : Tryz.prog.readableRec 24 = true := by kernel_rfl
theorem rr3 : Tryz.prog.readableRec 3 = true := by kernel_rfl
theorem sz22 : decide (22 < Tryz.prog.types.size) = true := by kernel_rfl
theorem sz24 : decide (24 < Tryz.prog.types.size) = true := by kernel_rfl
theorem sz3 : decide (3 < Tryz.prog.types.size) = true := by kernel_rfl

/-- The number at a cell. -/
def at1 (W : World) (a : Addr) (m : Nat) : Int := match W.cell? (a.add m) with
  | some (.int _ z) => z
  | _ => 0

theorem law_slice {W : World} (g : Globals W) (a : Addr) (n c : Nat) (r t h r' t' h' x : Int)
    (hel : ∀ i, i < n → ∀ j, j < 3 → ∃ z, W.cell? (a.add (i * 3 + j)) = some (.int .i64 z) ∧ -9223372036854775808 ≤ z ∧ z ≤ 9223372036854775807) :
    Calls Tryz.prog 3 #[.slice (some a) n c, .agg #[.int .i64 r, .int .i64 t, .int .i64 h], .agg #[.int .i64 r', .int .i64 t', .int .i64 h'], .int .i64 x] W fun e w' => e = .returned (.bool true) ∧ Keeps W w' := by
  by_cases h0 : n = 0
  · subst h0; exact law_zero g (some a) c r t h r' t' h' x
  by_cases h1 : 100 < n
  · exact law_long g (some a) n c r t h r' t' h' x h1
  have each : ∀ i, i < n → ∀ j, j < 3 → W.cell? (a.add (i * 3 + j)) = some (.int .i64 (at1 W a (i * 3 + j))) ∧ -9223372036854775808 ≤ at1 W a (i * 3 + j) ∧ at1 W a (i * 3 + j) ≤ 9223372036854775807 := fun i hi j hj => by
    obtain ⟨z, e, b1, b2⟩ := hel i hi j hj
    have : at1 W a (i * 3 + j) = z := by unfold at1; rw [e]
    rw [this]; exact ⟨e, b1, b2⟩
  have hw : Harms W a n (fun i => at1 W a (i * 3)) (fun i => at1 W a (i * 3 + 1)) (fun i => at1 W a (i * 3 + 2)) := fun i hi =>
    ⟨(each i hi 0 (by decide)).1, (each i hi 1 (by decide)).1, (each i hi 2 (by decide)).1⟩
  have hlt : a.block < W.heap.size := by
    have := (hw 0 (by omega)).1
    have hb : (a.add (0 * 3)).block = a.block := by unfold Addr.add; split <;> rfl
    rw [← hb]
    unfold World.cell? at this
    cases hq : W.heap[(a.add (0 * 3)).block]? with
    | none => simp [hq] at this
    | some o => exact (Array.getElem?_eq_some_iff.1 hq).1
  have f0 : Fits (fun i => at1 W a (i * 3)) n := fun i hi => (each i hi 0 (by decide)).2
  have f1 : Fits (fun i => at1 W a (i * 3 + 1)) n := fun i hi => (each i hi 1 (by decide)).2
  have f2 : Fits (fun i => at1 W a (i * 3 + 2)) n := fun i hi => (each i hi 2 (by decide)).2
  by_cases ho : okH (fun i => at1 W a (i * 3)) (fun i => at1 W a (i * 3 + 1)) (fun i => at1 W a (i * 3 + 2)) n r t h
  · exact law_yes g a n c _ _ _ r t h r' t' h' x hw hlt (by omega) (by omega) f0 f1 f2 ho
  · exact law_no g a n c _ _ _ r t h r' t' h' x hw hlt (by omega) (by omega) f0 f1 f2 ho

theorem wf_i64 {n : Int} (h : (Lit.int .i64 n).wf = true) : -9223372036854775808 ≤ n ∧ n ≤ 9223372036854775807 := by
  have h1 : (decide (IntKind.i64.min ≤ n) && decide (n ≤ IntKind.i64.max)) = true := h
  simp only [Bool.and_eq_true, decide_eq_true_eq] at h1
  have e1 : IntKind.i64.min = -9223372036854775808 := by decide
  have e2 : IntKind.i64.max = 9223372036854775807 := by decide
  rw [e1, e2] at h1
  exact h1

set_option maxRecDepth 100000 in
set_option maxHeartbeats 1000000 in
theorem contract (H : Type) (enc : TypeId × Value → H) (W : World) (base : Nat) (args : Array Value) (ds gs : List (DataW H)) (before : List MemPlace)
    (hval : ∀ (j : Nat) t v, Tryz.f3.params[j]? = some t → args[j]? = some v → Value.okWide Tryz.prog W .any base t v)
    (hW : DataW.Whole enc Tryz.prog Tryz.f3.params.toList Rows.harmWithinSpec.vars false W args.toList ds gs before) (hL : laidMetH Tryz.prog Rows.harmWithinRow.laid W) (hs : W.ShapedOpen Tryz.prog) :
    Calls Tryz.prog 3 args W fun e W' => ∃ v, e = .returned v ∧ Rows.harmWithinSpec.post enc Tryz.prog Tryz.f3 false true false false W args v W' := by
  have hW' := hW
  obtain ⟨p, q, hA0, hV, rfl, hfz, hnd⟩ := hW
  have hA : DataW.TrodAll enc Tryz.prog W 0 (fun _ => true) true Tryz.f3.params.toList args.toList ds p := hA0
  rw [Tryz.params3] at hA hval
  obtain ⟨v0, vs0, d0, ds0, p0, q0, hargs, rfl, rfl, h0, r0⟩ := trodAll_cons hA
  obtain ⟨v1, vs1, d1, ds1, p1, q1, rfl, rfl, rfl, h1, r1⟩ := trodAll_cons r0
  obtain ⟨v2, vs2, d2, ds2, p2, q2, rfl, rfl, rfl, h2, r2⟩ := trodAll_cons r1
  obtain ⟨v3, vs3, d3, ds3, p3, q3, rfl, rfl, rfl, h3, r3⟩ := trodAll_cons r2
  obtain ⟨rfl, rfl, rfl⟩ := trodAll_nil r3
  obtain rfl : args = #[v0, v1, v2, v3] := by cases args; simp_all
  obtain ⟨rfl, rfl⟩ := trodVars_none hV
  have g := globals_of hL hs
  have hold : ∀ {ps : List MemPlace}, (∀ x ∈ ps, x ∈ p0 ++ (p1 ++ (p2 ++ (p3 ++ [])))) → ∀ x ∈ ps, x.block < W.heap.size := fun hps x hx => hW'.lt x (by simpa using hps x hx)
  -- what the walk wants
  obtain ⟨x0, x1, x2, y0, y1, y2, n1, rfl, _, _, a0, a1, a2⟩ := open_agg3 Tryz.underlying24 hone24 cells24 (hval 1 24 v1 (by simp) (by simp)) h1
  obtain ⟨z0, z1, z2, w0, w1, w2, n2, rfl, _, _, b0, b1, b2⟩ := open_agg3 Tryz.underlying24 hone24 cells24 (hval 2 24 v2 (by simp) (by simp)) h2
  obtain ⟨r, e, _, _⟩ := DataW.trod_int Tryz.underlying3 a0; simp at e; subst e
  obtain ⟨t, e, _, _⟩ := DataW.trod_int Tryz.underlying3 a1; simp at e; subst e
  obtain ⟨h, e, _, _⟩ := DataW.trod_int Tryz.underlying3 a2; simp at e; subst e
  obtain ⟨r', e, _, _⟩ := DataW.trod_int Tryz.underlying3 b0; simp at e; subst e
  obtain ⟨t', e, _, _⟩ := DataW.trod_int Tryz.underlying3 b1; simp at e; subst e
  obtain ⟨h', e, _, _⟩ := DataW.trod_int Tryz.underlying3 b2; simp at e; subst e
  obtain ⟨x, rfl, _, _, _⟩ := open_int Tryz.underlying3 (hval 3 3 v3 (by simp) (by simp)) h3
  obtain ⟨ad, len, cap, rfl⟩ := okWide_slice Tryz.underlying22 (hval 0 22 v0 (by simp) (by simp))
  have walk : Calls Tryz.prog 3 #[.slice ad len cap, .agg #[.int .i64 r, .int .i64 t, .int .i64 h], .agg #[.int .i64 r', .int .i64 t', .int .i64 h'], .int .i64 x] W fun e w' => e = .returned (.bool true) ∧ Keeps W w' := by
    obtain ⟨fuel, hf⟩ := h0
    rcases open_slice_fields Tryz.underlying22 Tryz.underlying24 hone24 cells24 hf with ⟨hcs, _⟩ | ⟨a, len', cap', m, D, Pl, hcs, _, hle, _, hm, _, hi⟩
    · simp [Value.cells] at hcs
      obtain ⟨rfl, rfl, rfl⟩ := hcs
      exact law_zero g none 0 r t h r' t' h' x
    · simp [Value.cells] at hcs
      obtain ⟨rfl, rfl, rfl⟩ := hcs
      refine law_slice g a len cap r t h r' t' h' x fun i hi' j hj => ?_
      simp only [if_true] at hm
      obtain ⟨ys, nn, _, _, _, hfj⟩ := hi i (by rw [hm]; omega)
      have key : ∀ f, (#[{ name := "Rest", type := 3, offset := 0, embedded := false, tag := "", pkgPath := "", byteOffset := 0 }, { name := "Travel", type := 3, offset := 1, embedded := false, tag := "", pkgPath := "", byteOffset := 8 }, { name := "Home", type := 3, offset := 2, embedded := false, tag := "", pkgPath := "", byteOffset := 16 }] : Array Field)[j]? = some f → f.type = 3 → ∃ z, W.cell? (a.add (i * 3 + j)) = some (.int .i64 z) ∧ -9223372036854775808 ≤ z ∧ z ≤ 9223372036854775807 := fun f hf ht => by
        obtain ⟨v, y, hc, _, hty⟩ := hfj j f hf
        rw [ht] at hty
        obtain ⟨z, e, _, hwf⟩ := DataW.trod_int Tryz.underlying3 hty
        simp at e; subst e
        exact ⟨z, hc, wf_i64 hwf⟩
      match j, hj with
      | 0, _ => exact key _ rfl rfl
      | 1, _ => exact key _ rfl rfl
      | 2, _ => exact key _ rfl rfl
  refine walk.mono fun e W' ⟨he, hk⟩ => ?_
  subst he
  have stay : ∀ {ty : TypeId} {v : Value} {d : DataW H} {ps : List MemPlace} (sp : Nat → Bool), Tryz.prog.readableRec ty = true → ty < Tryz.prog.types.size → DataW.Trod enc Tryz.prog W 0 (fun _ => true) true ty v d ps → (∀ x ∈ ps, x ∈ p0 ++ (p1 ++ (p2 ++ (p3 ++ [])))) → (∀ x ∈ p0 ++ (p1 ++ (p2 ++ (p3 ++ []))), sp x.block = true) → DataW.Trod enc Tryz.prog W' 0 sp true ty v d ps :=
    fun sp hr hrow ht hin hsp => WideElems.Trod_stays laidOut hr hrow ht (fun x hx => hk.same (hold hin x hx)) (fun x hx => hsp x (hin x hx))
  refine ⟨_, rfl, post_of_keeps (pa := p0 ++ (p1 ++ (p2 ++ (p3 ++ [])))) (pv := []) hW' (fun _ _ _ => trodAll_mk1 (shut_bool Tryz.underlying4 _)) (fun sp hsp => ?_) (fun _ _ => rfl) (by simp) hk (ok_one (by kernel_rfl) rfl (okWide_bool_mk Tryz.underlying4 _))⟩
  have hsp' : ∀ x ∈ p0 ++ (p1 ++ (p2 ++ (p3 ++ []))), sp x.block = true := fun x hx => hsp x (by simpa using hx)
  rw [Tryz.params3]
  exact trodAll_cons_mk (stay sp rr22 (of_decide_eq_true sz22) h0 (fun x hx => by simp [hx]) hsp')
    (trodAll_cons_mk (stay sp rr24 (of_decide_eq_true sz24) h1 (fun x hx => by simp [hx]) hsp')
      (trodAll_cons_mk (stay sp rr24 (of_decide_eq_true sz24) h2 (fun x hx => by simp [hx]) hsp')
        (trodAll_cons_mk (stay sp rr3 (of_decide_eq_true sz3) h3 (fun x hx => by simp [hx]) hsp') trodAll_mk0)))
end Go.Proofs.YtnkipokbghnjcaaGreatDoor
