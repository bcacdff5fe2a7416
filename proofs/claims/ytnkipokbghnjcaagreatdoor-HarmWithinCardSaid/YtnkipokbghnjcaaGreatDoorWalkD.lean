/-
  From the row's premises to the walk's, and back.
-/
import Derived.Test.YtnkipokbghnjcaaGreatDoorWalkC
import Derived.Test.YtnkipokbghnjcaaGreatDoorCards
import Derived.Lib.LaidTab
import Derived.Deep.DeepHandedRow
import Derived.Deep.Slices
import Derived.Deep.Fields
import Derived.Lib.SmallJoins
import Derived.Carry
import Derived.LaidSub
import Derived.Shelf.Vars
/-! From the row's premises to the walk's, and back. -/
namespace Go.Proofs.YtnkipokbghnjcaaGreatDoor
open Go.ChangeShapes Go.WideShapes Go.ChangeAt Go.RowKit Go.Deep Go.Joins

theorem own : ownKnob Tryz.prog.godebug = none := by kernel_rfl
theorem laidOut : laidOutB Tryz.prog = true := by kernel_rfl
theorem gLens : Tryz.prog.globalNamed "fasti/days.lengths" = some 1 := by kernel_rfl
theorem gLensType : (Tryz.prog.globals[1]?).map (·.type) = some 347 := by kernel_rfl
theorem cells347 : Tryz.prog.cellsOf 347 = 12 := by kernel_rfl
theorem cells3 : Tryz.prog.cellsOf 3 = 1 := by kernel_rfl
theorem cells24 : Tryz.prog.cellsOf 24 = 3 := by kernel_rfl
theorem row1 : ((begin Tryz.prog (fun _ _ => 0) default).world.heap[1]?).bind Obj.row? = some (Array.replicate 12 (.int .i64 0), 347) := by kernel_rfl
theorem row4 : ((begin Tryz.prog (fun _ _ => 0) default).world.heap[4]?).bind Obj.row? = some (#[.int .i64 0], 3) := by kernel_rfl
theorem row6 : ((((begin Tryz.prog (fun _ _ => 0) default).world.heap[6]?).bind Obj.row?).map fun _ => ()) = some () := by kernel_rfl

theorem globals_of {W : World} (hL : laidMetH Tryz.prog Rows.harmWithinRow.laid W) (hs : W.ShapedOpen Tryz.prog) : Globals W := by
  have hf := hL.filter (fun x => x.1 == "fasti/days.lengths")
  have tab : Lib.TabIs Tryz.prog W "fasti/days.lengths" .i64 [31, 29, 31, 30, 31, 30, 31, 31, 30, 31, 30, 31] :=
    Lib.tabIs_of_head (rest := []) gLens gLensType Tryz.underlying347 Tryz.underlying3 cells3 cells347 hf
  refine ⟨?_, ?_, ?_⟩
  · have h6 : ∃ zero t, ((begin Tryz.prog (fun _ _ => 0) default).world.heap[6]?).bind Obj.row? = some (zero, t) := by
      have := row6
      cases hq : ((begin Tryz.prog (fun _ _ => 0) default).world.heap[6]?).bind Obj.row? with
      | none => rw [hq] at this; cases this
      | some x => exact ⟨x.1, x.2, rfl⟩
    obtain ⟨zero, t, h6⟩ := h6
    obtain ⟨cs, hh, _⟩ := hs.1 6 zero t (by rw [nglob]; decide) h6
    exact (Array.getElem?_eq_some_iff.1 hh).1
  · obtain ⟨cs, hh, _⟩ := hs.1 1 _ 347 (by rw [nglob]; decide) row1
    have hv : W.var? Tryz.prog "fasti/days.lengths" = some cs := by
      unfold World.var?
      rw [gLens]
      simp only [Option.bind_some, hh]
    have : cs = lensL.toArray := Option.some.inj (hv.symm.trans tab)
    rw [hh, this]
  · obtain ⟨cs, hh, _⟩ := hs.1 4 _ 3 (by rw [nglob]; decide) row4
    obtain ⟨m, hm⟩ := Go.Proofs.cell_of_shapedOpen_int hs (by rw [nglob]; decide) row4 rfl (by kernel_rfl) (by kernel_rfl) Tryz.underlying3
    refine ⟨cs, 3, m, hh, ?_⟩
    unfold World.cell? at hm
    simpa [hh] using hm

theorem Keeps.twin {W W' : World} (h : Keeps W W') : Below W.heap.size W { W' with tape := W.tape } := ⟨h.os, rfl, h.outp, h.sz, h.heap⟩
theorem Keeps.frame {W W' : World} (h : Keeps W W') (may : MemPlace → Prop) : W.keptBut W' may := h.twin.frame may
theorem Keeps.frozen {W W' : World} (h : Keeps W W') {p : Addr} (hp : p.block < W.heap.size) : W'.frozen? p = W.frozen? p := h.twin.frozen hp
theorem Keeps.same {W W' : World} (h : Keeps W W') {p : MemPlace} (hp : p.block < W.heap.size) : W.sameAt W' p := h.twin.same hp

section
variable {H : Type} {enc : TypeId × Value → H} {P : Program}
theorem post_of_keeps {f : Func} {s : ChangeSpec} {apart fresh handsOn again : Bool} {W W' : World} {args : Array Value} {v : Value} {ds gs : List (DataW H)} {before pa pv : List MemPlace}
    (hW : DataW.Whole enc P f.params.toList s.vars apart W args.toList ds gs before)
    (hres : ∀ (b : Nat) (sp : Nat → Bool) (hd : Bool), DataW.TrodAll enc P W' b sp hd f.resultTypes.toList (v.resultList f.resultTypes.size) (s.fn H (ds ++ gs)).results [])
    (hargs : ∀ sp : Nat → Bool, (∀ p ∈ before, sp p.block = true) → DataW.TrodAll enc P W' 0 sp true f.params.toList args.toList (s.fn H (ds ++ gs)).args pa)
    (hvars : ∀ sp : Nat → Bool, (∀ p ∈ before, sp p.block = true) → DataW.TrodVars enc P W' sp s.vars (s.fn H (ds ++ gs)).vars pv)
    (hps : before = pa ++ pv) (hb : Keeps W W')
    (hok : ∀ (j : Nat) (t : TypeId) (r : Value), f.resultTypes[j]? = some t → (v.resultList f.resultTypes.size)[j]? = some r → Value.okWide P W' .any 0 t r) :
    s.post enc P f apart fresh handsOn again W args v W' := by
  have hlt : ∀ p ∈ before, p.block < W.heap.size := fun p hp => hW.lt p hp
  have hold : ∀ p ∈ before, (fun b => decide (b < W.heap.size)) p.block = true := fun p hp => by simpa using hlt p hp
  refine ⟨ds, gs, before, [], pa, pv, hW, hres _ _ _, hargs _ hold, hvars _ hold, World.keptBut_mono (fun p hp => ⟨hp, ?_⟩) (hb.frame (· ∈ before)), fun _ => ?_⟩
  · rw [hps, List.mem_append] at hp
    exact Or.inr hp
  · obtain ⟨_, _, _, _, _, hz, hn⟩ := hW
    refine ⟨hok, _, _, ([] ++ pa) ++ pv, ⟨[] ++ pa, pv, trodAll_append (hargs _ (fun _ _ => rfl)) (hres _ _ _), hvars _ (fun _ _ => rfl), rfl, ?_, ?_⟩, ?_⟩
    · intro b off hp
      have hin : MemPlace.cell b off ∈ before := by rw [hps]; simpa using hp
      rw [hb.frozen (hlt _ hin)]
      exact hz b off hin
    · intro ha
      have := hn ha
      rw [hps] at this
      simpa using this
    · intro p hp _
      rw [hps]
      simpa using hp
end
end Go.Proofs.YtnkipokbghnjcaaGreatDoor
