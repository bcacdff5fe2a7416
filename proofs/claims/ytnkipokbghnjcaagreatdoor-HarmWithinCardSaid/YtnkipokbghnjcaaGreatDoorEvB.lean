/-
  The evaluator's operations on addresses and slices, and append. · The evaluator's append; make of a slice and of a map; len; nil comparisons. · The evaluator's make of a slice and of a map, its lookups and stores in maps, and its steps over a map. · The evaluator's stores in maps, and its steps over a map. · The evaluator's steps over a map: which entry comes is left open.
-/
import Derived.Test.YtnkipokbghnjcaaGreatDoorEvA
import Derived.IntWalk
/-! The evaluator's operations on addresses and slices, and append. -/
namespace Go.Ev
open Go

section
variable {P : Program}

def aField (P : Program) (s : TypeId) (a : Value) (f : Nat) : Option Value :=
  match P.underlying s with
  | some (.struct fields) => match fields[f]? with
    | some fd => match sizeT P fd.type, a with
      | some (_ + 1), .pointer (some ⟨b, o, none⟩) => some (.pointer (some ⟨b, o + fd.offset, none⟩))
      | _, _ => none
    | none => none
  | _ => none

theorem aField_ok {μ : Mu} {s : TypeId} {a a' v : Value} {f : Nat} (ha : VR μ a a') (e : aField P s a f = some v) (w : World) :
    ∃ v', (Instr.fieldAt s a' f).run P w = .ok v' w ∧ VR μ v v' := by
  unfold aField at e
  split at e
  · rename_i fields hu
    split at e
    · rename_i fd hf
      split at e
      · rename_i n b o hs
        cases e
        obtain ⟨x, hm, _, rfl⟩ := ha.ptr_inv
        refine ⟨.pointer (some ⟨x.blk, x.sh + (o + fd.offset), none⟩), ?_, .ptr hm⟩
        simp [Instr.fieldAt, run_underlying hu, hf, Instr.sureAddr, fieldPlace, run_sizeT hs, addr_add, Nat.add_assoc]
      · cases e
    · cases e
  · cases e

/-- An integer of the machine's: its kind and its number. -/
theorem VR.int_inv {μ : Mu} {k : IntKind} {n : Int} {v' : Value} (r : VR μ (.int k n) v') : v' = .int k n := by cases r; rfl
theorem VR.bool_inv {μ : Mu} {b : Bool} {v' : Value} (r : VR μ (.bool b) v') : v' = .bool b := by cases r; rfl

def inB (i : Int) (n : Nat) : Bool := match i with | .ofNat m => Nat.blt m n | .negSucc _ => false
theorem inB_spec {i : Int} {n : Nat} (h : inB i n = true) : 0 ≤ i ∧ i < n := by
  cases i with
  | ofNat m => simp only [inB, Nat.blt_eq] at h; exact ⟨Int.natCast_nonneg _, by simpa using h⟩
  | negSucc m => simp [inB] at h

def aIndexAddr (P : Program) (t : TypeId) (x ix : Value) : Option Value :=
  match ix with
  | .int _ i => match P.underlying t, x with
    | some (.slice elem), .slice (some ⟨b, o, none⟩) len _ => match inB i len, sizeT P elem with
      | true, some n => some (.pointer (some ⟨b, o + i.toNat * n, none⟩))
      | _, _ => none
    | some (.array len elem), .pointer (some ⟨b, o, none⟩) => match inB i len, sizeT P elem with
      | true, some n => some (.pointer (some ⟨b, o + i.toNat * n, none⟩))
      | _, _ => none
    | _, _ => none
  | _ => none

theorem aIndexAddr_ok {μ : Mu} {t : TypeId} {x x' ix ix' v : Value} (hx : VR μ x x') (hi : VR μ ix ix') (e : aIndexAddr P t x ix = some v) (w : World) :
    ∃ v', (Instr.indexAt t x' ix').run P w = .ok v' w ∧ VR μ v v' := by
  unfold aIndexAddr at e
  split at e
  · rename_i k i
    obtain rfl := hi.int_inv
    split at e
    · rename_i elem b o len cap hu
      split at e
      · rename_i n hb hs
        cases e
        obtain ⟨h1, h2⟩ := inB_spec hb
        cases hx with
        | sl hm hc =>
          rename_i l
          refine ⟨.pointer (some ⟨l.blk, l.sh + (o + i.toNat * n), none⟩), ?_, .ptr hm⟩
          simp [Instr.indexAt, asIntOf, run_underlying hu, h1, h2, run_sizeT hs, addr_add, Nat.add_assoc]
      · cases e
    · rename_i len elem b o hu
      split at e
      · rename_i n hb hs
        cases e
        obtain ⟨h1, h2⟩ := inB_spec hb
        obtain ⟨l, hm, _, rfl⟩ := hx.ptr_inv
        refine ⟨.pointer (some ⟨l.blk, l.sh + (o + i.toNat * n), none⟩), ?_, .ptr hm⟩
        simp [Instr.indexAt, asIntOf, run_underlying hu, h1, h2, run_sizeT hs, addr_add, Nat.add_assoc, Instr.sureAddr]
      · cases e
    · cases e
  · cases e

/-! ### Slicing -/
def natOf (v : Value) : Option Nat := match v with | .int _ (.ofNat n) => some n | _ => none
theorem natOf_spec {v : Value} {n : Nat} (h : natOf v = some n) : ∃ k, v = .int k (n : Int) := by
  unfold natOf at h
  split at h
  · cases h; exact ⟨_, rfl⟩
  · cases h

/-- The bounds of a slice expression: absent ones are the length (high), nought (low). -/
def bnd (o : Option Value) (d : Nat) : Option Nat := match o with | none => some d | some v => natOf v

def OptR (μ : Mu) : Option Value → Option Value → Prop
  | none, none => True
  | some v, some v' => VR μ v v'
  | _, _ => False

theorem run_sliceBound {x : Nat} {k : IntKind} {y : Nat} {code : BoundsCode} (h : x ≤ y) (w : World) : (Instr.sliceBound (.int k (x : Int)) y code).run P w = .ok x w := by
  simp [Instr.sliceBound, asIntOf, h]

/-- What is known of the capacity: the exact one's, or the least's, and a mark. -/
def capOf (c : Nat) : Nat × Bool := match Nat.blt c BIG with | true => (c, true) | false => (c - BIG, false)

theorem run_bounds_nomax {isS : Bool} {len cap lo hi : Nat} {low high : Option Value} (hl : bnd low 0 = some lo) (hh : bnd high len = some hi) (h1 : lo ≤ hi) (h2 : hi ≤ cap) (w : World) :
    (Instr.sliceBounds isS len cap low high none).run P w = .ok (lo, hi, cap) w := by
  unfold Instr.sliceBounds
  cases high with
  | none =>
    simp only [bnd, Option.some.injEq] at hh
    subst hh
    cases low with
    | none => simp only [bnd, Option.some.injEq] at hl; subst hl; simp
    | some v =>
      obtain ⟨k, rfl⟩ := natOf_spec hl
      simp [run_sliceBound h1]
  | some u =>
    obtain ⟨k, rfl⟩ := natOf_spec hh
    cases low with
    | none => simp only [bnd, Option.some.injEq] at hl; subst hl; simp [run_sliceBound h2]
    | some v =>
      obtain ⟨k, rfl⟩ := natOf_spec hl
      simp [run_sliceBound h1, run_sliceBound h2]

theorem run_bounds_max {isS : Bool} {len cap lo hi m : Nat} {low : Option Value} {high mx : Value} (hl : bnd low 0 = some lo) (hh : natOf high = some hi) (hm : natOf mx = some m) (h1 : lo ≤ hi) (h2 : hi ≤ m) (h3 : m ≤ cap) (w : World) :
    (Instr.sliceBounds isS len cap low (some high) (some mx)).run P w = .ok (lo, hi, m) w := by
  unfold Instr.sliceBounds
  obtain ⟨k, rfl⟩ := natOf_spec hh
  obtain ⟨k', rfl⟩ := natOf_spec hm
  cases low with
  | none => simp only [bnd, Option.some.injEq] at hl; subst hl; simp [run_sliceBound h3, run_sliceBound h2]
  | some v =>
    obtain ⟨k, rfl⟩ := natOf_spec hl
    simp [run_sliceBound h1, run_sliceBound h2, run_sliceBound h3]

def moved (b o n l size : Nat) : Value → Value := fun _ => .slice (some ⟨b, o + l * size, none⟩) n 0

/-- The new address: the old one where no capacity is left. -/
def adr (b o m l size : Nat) : Addr := match Nat.beq m l with | true => ⟨b, o, none⟩ | false => ⟨b, o + l * size, none⟩

def aSlice (P : Program) (t : TypeId) (x : Value) (low high mx : Option Value) : Option Value :=
  match P.underlying t, x with
  | some (.slice elem), .slice base len cap =>
    match sizeT P elem, bnd low 0, bnd high len, mx with
    | some size, some lo, some hi, none =>
      match capOf cap with
      | (c, exact) =>
        match Nat.ble lo hi && Nat.ble hi c, base, exact with
        | true, none, true => some (.slice none (hi - lo) (c - lo))
        | true, some ⟨b, o, none⟩, true => some (.slice (some (adr b o c lo size)) (hi - lo) (c - lo))
        | true, some ⟨b, o, none⟩, false => match Nat.blt lo c || Nat.beq lo 0 with
          | true => some (.slice (some ⟨b, o + lo * size, none⟩) (hi - lo) (BIG + (c - lo)))
          | false => none
        | _, _, _ => none
    | some size, some lo, some hi, some mv =>
      match natOf mv, capOf cap, high with
      | some m, (c, _), some _ =>
        match Nat.ble lo hi && Nat.ble hi m && Nat.ble m c && Nat.ble c 1000000, base with
        | true, some ⟨b, o, none⟩ => some (.slice (some (adr b o m lo size)) (hi - lo) (m - lo))
        | true, none => some (.slice none (hi - lo) (m - lo))
        | _, _ => none
      | _, _, _ => none
    | _, _, _, _ => none
  | some (.array n elem), .pointer (some ⟨b, o, none⟩) =>
    match sizeT P elem, bnd low 0, bnd high n, mx with
    | some size, some lo, some hi, none =>
      match Nat.ble lo hi && Nat.ble hi n && Nat.ble n 1000000 with
      | true => some (.slice (some (adr b o n lo size)) (hi - lo) (n - lo))
      | false => none
    | _, _, _, _ => none
  | _, _ => none

theorem OptR.bnd {μ : Mu} {o o' : Option Value} {d n : Nat} (r : OptR μ o o') (h : bnd o d = some n) : bnd o' d = some n := by
  cases o with
  | none => cases o' with | none => exact h | some _ => cases r
  | some v => cases o' with
    | none => cases r
    | some v' => obtain ⟨k, rfl⟩ := natOf_spec h; rw [VR.int_inv r]; rfl

theorem capOf_exact {c d : Nat} (h : capOf c = (d, true)) : c = d ∧ c < BIG := by
  unfold capOf at h
  cases q : Nat.blt c BIG with
  | true =>
    rw [q] at h
    simp only [Prod.mk.injEq, and_true] at h
    exact ⟨h, by rw [Nat.blt_eq] at q; exact q⟩
  | false => rw [q] at h; simp only [Prod.mk.injEq, Bool.false_eq_true, and_false] at h
theorem capOf_least {c d : Nat} (h : capOf c = (d, false)) : c = BIG + d := by
  unfold capOf at h
  cases q : Nat.blt c BIG with
  | true => rw [q] at h; simp only [Prod.mk.injEq, Bool.true_eq_false, and_false] at h
  | false =>
    rw [q] at h
    simp only [Prod.mk.injEq, and_true] at h
    have : ¬ c < BIG := fun hl => by rw [← Nat.blt_eq] at hl; rw [hl] at q; cases q
    omega

theorem adr_map (x : Spot) (b o m l size : Nat) : (if m = l then (⟨x.blk, x.sh + o, none⟩ : Addr) else (⟨x.blk, x.sh + o, none⟩ : Addr).add (l * size)) = ⟨x.blk, x.sh + (adr b o m l size).off, none⟩ := by
  unfold adr
  by_cases h : m = l
  · subst h; simp
  · have : Nat.beq m l = false := by
      cases q : Nat.beq m l with
      | false => rfl
      | true => exact absurd (Nat.eq_of_beq_eq_true q) h
    rw [if_neg h, addr_add, this]
    simp [Nat.add_assoc]

theorem adr_blk (b o m l size : Nat) : ∃ o', adr b o m l size = ⟨b, o', none⟩ := by unfold adr; split <;> exact ⟨_, rfl⟩

theorem aSlice_ok {μ : Mu} {t : TypeId} {x x' v : Value} {low low' high high' mx mx' : Option Value} (hx : VR μ x x') (hl : OptR μ low low') (hh : OptR μ high high') (hm : OptR μ mx mx') (e : aSlice P t x low high mx = some v) (w : World) :
    ∃ v', (Instr.sliceAt t x' low' high' mx').run P w = .ok v' w ∧ VR μ v v' := by
  have hBIG : BIG = 1180591620717411303424 := rfl
  unfold aSlice at e
  split at e
  · rename_i elem base len cap hu
    split at e
    · rename_i size lo hi hs h1 h2
      cases mx' with
      | some _ => cases hm
      | none =>
        have h1' := hl.bnd h1
        have h2' := hh.bnd h2
        generalize hcc : capOf cap = cc at e
        obtain ⟨c, exact⟩ := cc
        simp only at e
        split at e
        · -- nil
          rename_i hb
          cases e
          simp only [Bool.and_eq_true, Nat.ble_eq] at hb
          obtain ⟨rfl, hcb⟩ := capOf_exact hcc
          cases hx with
          | sl0 =>
            refine ⟨.slice none (hi - lo) (cap - lo), ?_, .sl0 _ _⟩
            simp [Instr.sliceAt, Instr.slice, run_underlying hu, run_bounds_nomax h1' h2' hb.1 hb.2, run_sizeT hs]
        · rename_i b o hb
          cases e
          simp only [Bool.and_eq_true, Nat.ble_eq] at hb
          obtain ⟨rfl, hcb⟩ := capOf_exact hcc
          cases hx with
          | sl hmu hcap =>
            rename_i c' x
            obtain rfl : cap = c' := by rcases hcap with ⟨_, h⟩ | ⟨h, _⟩ <;> omega
            obtain ⟨o', ho'⟩ := adr_blk b o cap lo size
            refine ⟨.slice (some ⟨x.blk, x.sh + (adr b o cap lo size).off, none⟩) (hi - lo) (cap - lo), ?_, ?_⟩
            · have := adr_map x b o cap lo size
              simp only [Instr.sliceAt, Instr.slice, Sem.run_bind, run_underlying hu, run_bounds_nomax h1' h2' hb.1 hb.2, run_sizeT hs, Result.andThen_ok, Option.map_some]
              rw [← this]
              by_cases hml : cap = lo <;> simp [hml]
            · rw [ho']; exact .sl hmu (.inl ⟨by omega, rfl⟩)
        · rename_i b o hb
          simp only [Bool.and_eq_true, Nat.ble_eq] at hb
          obtain rfl := capOf_least hcc
          split at e
          · rename_i hq
            cases e
            simp only [Bool.or_eq_true, Nat.blt_eq, Nat.beq_eq] at hq
            cases hx with
            | sl hmu hcap =>
              rename_i c' x
              obtain rfl : c' = c + x.ex := by rcases hcap with ⟨h, _⟩ | ⟨_, h⟩ <;> omega
              refine ⟨.slice (some ⟨x.blk, x.sh + (o + lo * size), none⟩) (hi - lo) (c + x.ex - lo), ?_, .sl hmu (.inr ⟨by omega, by omega⟩)⟩
              simp only [Instr.sliceAt, Instr.slice, Sem.run_bind, run_underlying hu, run_bounds_nomax (cap := c + x.ex) h1' h2' hb.1 (by omega), run_sizeT hs, Result.andThen_ok, Option.map_some]
              by_cases hml : c + x.ex = lo
              · have : lo = 0 := by omega
                subst this
                simp [hml]
              · simp [hml, addr_add, Nat.add_assoc]
          · cases e
        · cases e
    · rename_i size lo hi mv hs h1 h2
      cases mx' with
      | none => cases hm
      | some mv' =>
        have h1' := hl.bnd h1
        have h2' := hh.bnd h2
        split at e
        · rename_i m c ex hv hnm hcc
          cases high' with
          | none => cases hh
          | some hv' =>
            obtain ⟨k, rfl⟩ := natOf_spec hnm
            obtain rfl := VR.int_inv hm
            split at e
            · rename_i b o hb
              cases e
              simp only [Bool.and_eq_true, Nat.ble_eq] at hb
              cases hx with
              | sl hmu hcap =>
                rename_i c' x
                have hcc' : c ≤ c' := by
                  cases ex with
                  | true => obtain ⟨rfl, _⟩ := capOf_exact hcc; rcases hcap with ⟨_, h⟩ | ⟨h, _⟩ <;> omega
                  | false => obtain rfl := capOf_least hcc; rcases hcap with ⟨h, _⟩ | ⟨_, h⟩ <;> omega
                obtain ⟨o', ho'⟩ := adr_blk b o m lo size
                refine ⟨.slice (some ⟨x.blk, x.sh + (adr b o m lo size).off, none⟩) (hi - lo) (m - lo), ?_, ?_⟩
                · have := adr_map x b o m lo size
                  simp only [Instr.sliceAt, Instr.slice, Sem.run_bind, run_underlying hu, run_bounds_max (cap := c') h1' h2' hnm hb.1.1.1 hb.1.1.2 (by omega), run_sizeT hs, Result.andThen_ok, Option.map_some]
                  rw [← this]
                  by_cases hml : m = lo <;> simp [hml]
                · rw [ho']; exact .sl hmu (.inl ⟨by omega, rfl⟩)
            · rename_i hb
              cases e
              simp only [Bool.and_eq_true, Nat.ble_eq] at hb
              cases hx with
              | sl0 =>
                have hcc' : c ≤ cap := by
                  cases ex with
                  | true => obtain ⟨rfl, _⟩ := capOf_exact hcc; omega
                  | false => obtain rfl := capOf_least hcc; omega
                refine ⟨.slice none (hi - lo) (m - lo), ?_, .sl0 _ _⟩
                simp [Instr.sliceAt, Instr.slice, run_underlying hu, run_bounds_max h1' h2' hnm hb.1.1.1 hb.1.1.2 (show m ≤ cap by omega), run_sizeT hs]
            · cases e
        · cases e
    · cases e
  · rename_i n elem b o hu
    split at e
    · rename_i size lo hi hs h1 h2
      cases mx' with
      | some _ => cases hm
      | none =>
        have h1' := hl.bnd h1
        have h2' := hh.bnd h2
        split at e
        · rename_i hb
          cases e
          simp only [Bool.and_eq_true, Nat.ble_eq] at hb
          obtain ⟨x, hmu, _, rfl⟩ := hx.ptr_inv
          obtain ⟨o', ho'⟩ := adr_blk b o n lo size
          refine ⟨.slice (some ⟨x.blk, x.sh + (adr b o n lo size).off, none⟩) (hi - lo) (n - lo), ?_, ?_⟩
          · have := adr_map x b o n lo size
            simp only [Instr.sliceAt, Instr.sureAddr, Sem.run_bind, Sem.run_pure, run_underlying hu, run_bounds_nomax h1' h2' hb.1.1 hb.1.2, run_sizeT hs, Result.andThen_ok]
            rw [← this]
          · rw [ho']; exact .sl hmu (.inl ⟨by omega, rfl⟩)
        · cases e
    · cases e
  · cases e

/-- What is left when all that is known of it is cut off: it may lie at the old place (no capacity left) or behind. -/
def aSliceEnd (P : Program) (t : TypeId) (x : Value) (low high mx : Option Value) : Option (Value × Value) :=
  match P.underlying t, x, mx with
  | some (.slice elem), .slice (some ⟨b, o, none⟩) len cap, none =>
    match sizeT P elem, bnd low 0, bnd high len, capOf cap with
    | some size, some lo, some hi, (c, false) => match Nat.beq lo c && Nat.ble lo hi && Nat.ble hi c with
      | true => some (.slice (some ⟨b, o, none⟩) 0 0, .slice (some ⟨b, o + lo * size, none⟩) 0 BIG)
      | false => none
    | _, _, _, _ => none
  | _, _, _ => none

theorem aSliceEnd_ok {μ : Mu} {t : TypeId} {x x' : Value} {p : Value × Value} {low low' high high' mx mx' : Option Value} (hx : VR μ x x') (hl : OptR μ low low') (hh : OptR μ high high') (hm : OptR μ mx mx') (e : aSliceEnd P t x low high mx = some p) (w : World) :
    ∃ v', (Instr.sliceAt t x' low' high' mx').run P w = .ok v' w ∧ (VR μ p.1 v' ∨ VR μ p.2 v') := by
  have hBIG : BIG = 1180591620717411303424 := rfl
  unfold aSliceEnd at e
  split at e
  · rename_i elem b o len cap hu
    split at e
    · rename_i size lo hi c hs h1 h2 hcc
      cases mx' with
      | some _ => cases hm
      | none =>
        have h1' := hl.bnd h1
        have h2' := hh.bnd h2
        split at e
        · rename_i hb
          cases e
          simp only [Bool.and_eq_true, Nat.ble_eq, Nat.beq_eq] at hb
          obtain ⟨⟨rfl, hb1⟩, hb2⟩ := hb
          obtain rfl := capOf_least hcc
          obtain rfl : hi = lo := by omega
          cases hx with
          | sl hmu hcap =>
            rename_i c' x
            obtain rfl : c' = hi + x.ex := by rcases hcap with ⟨h, _⟩ | ⟨_, h⟩ <;> omega
            by_cases hex : x.ex = 0
            · refine ⟨.slice (some ⟨x.blk, x.sh + o, none⟩) 0 0, ?_, .inl (.sl hmu (.inl ⟨by omega, rfl⟩))⟩
              simp only [Instr.sliceAt, Instr.slice, Sem.run_bind, run_underlying hu, run_bounds_nomax (cap := hi + x.ex) h1' h2' (Nat.le_refl _) (by omega), run_sizeT hs, Result.andThen_ok, Option.map_some]
              simp [hex]
            · refine ⟨.slice (some ⟨x.blk, x.sh + (o + hi * size), none⟩) 0 x.ex, ?_, .inr (.sl hmu (.inr ⟨by omega, by omega⟩))⟩
              simp only [Instr.sliceAt, Instr.slice, Sem.run_bind, run_underlying hu, run_bounds_nomax (cap := hi + x.ex) h1' h2' (Nat.le_refl _) (by omega), run_sizeT hs, Result.andThen_ok, Option.map_some]
              simp [hex, addr_add, Nat.add_assoc]
        · cases e
    · cases e
  · cases e

end
end Go.Ev

/-! The evaluator's append; make of a slice and of a map; len; nil comparisons. -/
namespace Go.Ev
open Go

section
variable {P : Program}

/-- The cells that are appended: those of a slice. -/
def aCells (h : Hp) (size : Nat) (x : Value) : Option (Nat × List Value) :=
  match x with
  | .slice none n _ => match n with
    | 0 => some (0, [])
    | _ => none
  | .slice (some ⟨b, o, none⟩) n _ => match h.row b with
    | some (c, _) => match seg c o (n * size) with
      | some s => some (n, s)
      | none => none
    | none => none
  | _ => none

theorem aCells_ok {μ : Mu} {h : Hp} {w : World} (r : WR P μ h w) {size n : Nat} {x x' : Value} {s : List Value} (hx : VR μ x x') (e : aCells h size x = some (n, s)) :
    (Builtin.lenOf x').run P w = .ok n w ∧ s.length = n * size ∧ ∃ s', (∀ w' : World, w'.heap = w.heap → (Builtin.firstCells size n x').run P w' = .ok s' w') ∧ AllR μ s.toArray s' := by
  unfold aCells at e
  split at e
  · split at e
    · cases e
      cases hx with
      | sl0 => exact ⟨by simp [Builtin.lenOf], by simp, #[], fun w' _ => by simp [Builtin.firstCells], rfl, fun i x y hx _ => by simp at hx⟩
    · cases e
  · rename_i b o n' cap
    cases hrow : h.row b with
    | none => rw [hrow] at e; cases e
    | some q =>
      obtain ⟨c, ty⟩ := q
      rw [hrow] at e; simp only at e
      cases hs : seg c o (n' * size) with
      | none => rw [hs] at e; cases e
      | some s0 =>
        rw [hs] at e; cases e
        obtain ⟨l, c', i, hm, hg, hi, hsz, hc⟩ := r.row hrow
        cases hx with
        | sl hm2 hcap =>
          rw [hm] at hm2; cases hm2
          obtain ⟨s', h1, h2⟩ := run_seg (P := P) (g := l.blk) (t := ty) hc hs
          refine ⟨by simp [Builtin.lenOf], ?_, s', fun w' hw' => by simpa [Builtin.firstCells] using h1 w' (by rw [hw']; exact hg), h2⟩
          obtain ⟨q1, rfl⟩ := seg_some hs
          simp; omega
  · cases e

def notInt (P : Program) (t : TypeId) : Bool := match P.underlying t with | some (.slice _) => true | _ => false

theorem run_append_in {sT xT ty elem : TypeId} {base : Option Addr} {sLen sCap size n : Nat} {x : Value} {new : Array Value} {w w' : World}
    (hu : P.underlying sT = some (.slice elem)) (hx : notInt P xT = true) (hs : sizeT P elem = some size) (hl : (Builtin.lenOf x).run P w = .ok n w)
    (hn : (Builtin.firstCells size n x).run P w = .ok new w) (hc : sLen + n ≤ sCap)
    (hst : (match base with | some a => storeCells (a.add (sLen * size)) new.toList | none => pure () : Sem Unit).run P w = .ok () w') :
    (Builtin.append_ #[sT, xT] ty #[.slice base sLen sCap, x]).run P w = .ok (.slice base (sLen + n) sCap) w' := by
  unfold Builtin.append_
  unfold notInt at hx
  split at hx
  · rename_i e hxu
    cases base with
    | none =>
      simp at hst
      subst hst
      simp [run_underlying hu, run_sizeT hs, run_underlying hxu, hl, hc, hn]
    | some a =>
      simp only at hst
      simp [run_underlying hu, run_sizeT hs, run_underlying hxu, hl, hc, hn, hst]
  · cases hx

theorem nextcap_small {need c : Nat} (h1 : need ≤ 200) (h2 : c < need) : Builtin.nextslicecap need c ≤ 400 := by
  unfold Builtin.nextslicecap
  split
  · omega
  · rw [if_pos (by omega)]; omega

theorem run_append_grow {sT xT ty elem : TypeId} {base : Option Addr} {sLen sCap size n : Nat} {x z : Value} {i : TypeInfo} {old new : Array Value} {w : World}
    (hu : P.underlying sT = some (.slice elem)) (hx : notInt P xT = true) (hs : sizeT P elem = some size) (hl : (Builtin.lenOf x).run P w = .ok n w)
    (hi : P.info? elem = some i) (hb : i.bytes ≤ 1048576) (hb0 : 0 < i.bytes) (hz : zeroT P elem = some z)
    (hn : ∀ w', w'.heap = w.heap → (Builtin.firstCells size n x).run P w' = .ok new w') (ho : ∀ w', w'.heap = w.heap → (Builtin.firstCells size sLen (.slice base sLen sCap)).run P w' = .ok old w')
    (hc : sCap < sLen + n) (hk : sLen + n ≤ 200) :
    ∃ (ex : Nat) (w1 : World), (w1.heap = w.heap ∧ w1.os = w.os ∧ w1.output = w.output) ∧ (Builtin.append_ #[sT, xT] ty #[.slice base sLen sCap, x]).run P w =
      .ok (.slice (some ⟨w.heap.size, 0, none⟩) (sLen + n) (sLen + n + ex)) { w1 with heap := w1.heap.push (.cells (old ++ new ++ Builtin.zeroCells z.cells ex) elem) } := by
  unfold notInt at hx
  split at hx
  · rename_i e hxu
    have hcap : Builtin.nextslicecap (sLen + n) sCap * i.bytes ≤ 2 ^ 48 := by
      have := nextcap_small hk hc
      calc _ ≤ 400 * 1048576 := Nat.mul_le_mul this hb
        _ ≤ 2 ^ 48 := by decide
    let t := w.tape w.drawn (.appendCap (sLen + n) sCap elem)
    let ex := t % (2 ^ 63 - (sLen + n))
    let w1 : World := w.drew
    have hn1 := hn w1 rfl
    have ho1 := ho w1 rfl
    refine ⟨ex, w1, ⟨rfl, rfl, rfl⟩, ?_⟩
    unfold Builtin.append_
    have hnot : ¬ sLen + n ≤ sCap := by omega
    have hne : ¬ (i.bytes = 0) := by omega
    have hcap' : ¬ (2 ^ 48 < Builtin.nextslicecap (sLen + n) sCap * i.bytes) := by omega
    have hti : ∀ w, (typeInfo elem).run P w = .ok i w := fun w => run_typeInfo' hi w
    simp [run_underlying hu, run_sizeT hs, run_underlying hxu, hl, hnot, hti, hne, hcap', Question.forced, Question.cut, run_zeroT hz, newRow]
    rw [ho1]
    simp [hn1, ex, t]
    rfl
  · cases hx

theorem LR.zero_app {μ : Mu} {a b : List Value} {a' b' : Array Value} (h : AllR μ a.toArray a') (k : AllR μ b.toArray b') : LR μ (a ++ b) (a' ++ b').toList := by
  have := h.toList.app k.toList
  simpa using this

/-- The row that stands for the grown slice: the new block's, with spare cells behind. -/
theorem OR.grown {μ : Mu} {b ex : Nat} {elem : TypeId} {i : TypeInfo} {c : List Value} {c' z : Array Value} (hi : P.info? elem = some i) (hs : i.size ≤ z.size) (hc : LR μ c c'.toList) :
    OR P μ ⟨b, 0, ex⟩ (.cells c elem) (.cells (c' ++ Builtin.zeroCells z ex) elem) := by
  refine .cells hi ?_ ?_
  · have h1 := hc.1
    simp only [Array.length_toList] at h1
    have h2 : (Builtin.zeroCells z ex).size = ex * z.size := by simp [Builtin.zeroCells]
    rw [Array.size_append, h2]
    have : ex * i.size ≤ ex * z.size := Nat.mul_le_mul_left _ hs
    simp only [Nat.zero_add]
    omega
  · intro j x hx
    have hj : j < c'.size := by have := hc.1; simp only [Array.length_toList] at this; rw [← this]; exact (List.getElem?_eq_some_iff.1 hx).1
    refine ⟨c'[j], ?_, hc.2 j _ _ hx (by simp [hj])⟩
    simp only [Nat.zero_add]
    rw [Array.getElem?_append_left hj]; simp [hj]

def aGrow (h : Hp) (elem : TypeId) (size sLen n c : Nat) (exact : Bool) (base : Option Addr) (old xs : List Value) : Option (Value × Hp) :=
  match exact with
  | true => some (.slice (some ⟨h.nx, 0, none⟩) (sLen + n) (BIG + (sLen + n)), h.new (.cells (old ++ xs) elem))
  | false => match base with
    | some ⟨b, o, none⟩ => match h.row b with
      | some (r, ty) => match Nat.beq ty elem && Nat.beq (o + c * size) r.length && xs.all oneC with
        | true => some (.slice (some ⟨h.nx, 0, none⟩) (sLen + n) (BIG + (sLen + n)), (h.put b .dead).new (.cells (old ++ xs) elem))
        | false => none
      | none => none
    | _ => none

def aPlace (h : Hp) (size sLen n sCap : Nat) (base : Option Addr) (xs : List Value) : Option (Value × Hp) :=
  match base with
  | none => match n with
    | 0 => some (.slice none sLen sCap, h)
    | _ => none
  | some ⟨b, o, none⟩ => match h.row b with
    | some (r, ty) => match xs.all oneC, segSet r (o + sLen * size) xs with
      | true, some r2 => some (.slice (some ⟨b, o, none⟩) (sLen + n) sCap, h.put b (.cells r2 ty))
      | _, _ => none
    | none => none
  | _ => none

def aAppend (P : Program) (h : Hp) (sT xT : TypeId) (s x : Value) : Option (Value × Hp) :=
  match P.underlying sT with
  | some (.slice elem) => match P.info? elem with
    | some i => match s with
      | .slice base sLen sCap => match notInt P xT with
        | true => match aCells h i.size x with
          | some (n, xs) =>
            match Nat.ble (sLen + n) (capOf sCap).1 with
            | true => aPlace h i.size sLen n sCap base xs
            | false =>
              match Nat.ble (sLen + n) 200 && Nat.ble i.bytes 1048576 && Nat.blt 0 i.bytes && Nat.ble sLen (capOf sCap).1 && h.room with
              | true => match i.zero with
                | some z => match Nat.ble i.size z.cells.size with
                  | true => match aCells h i.size (.slice base sLen sCap) with
                    | some (_, old) => aGrow h elem i.size sLen n (capOf sCap).1 (capOf sCap).2 base old xs
                    | none => none
                  | false => none
                | none => none
              | false => none
          | none => none
        | false => none
      | _ => none
    | none => none
  | _ => none

theorem VR.sl_real {μ : Mu} {base : Option Addr} {n c : Nat} {s' : Value} (hs : VR μ (.slice base n c) s') :
    ∃ base' c', s' = .slice base' n c' ∧ ((capOf c).2 = true → c' = (capOf c).1) ∧ (capOf c).1 ≤ c' ∧ (base = none → base' = none) ∧
      (∀ b o sp, base = some ⟨b, o, sp⟩ → sp = none ∧ ∃ l, μ b = some l ∧ base' = some ⟨l.blk, l.sh + o, none⟩ ∧ CapR l.ex c c' ∧ ((capOf c).2 = false → c' = (capOf c).1 + l.ex)) := by
  generalize hcc : capOf c = cc
  obtain ⟨d, exact⟩ := cc
  cases hs with
  | sl0 =>
    refine ⟨none, c, rfl, ?_, ?_, fun _ => rfl, (fun b o sp hb => by cases hb)⟩
    · intro h; simp only at h; subst h; exact (capOf_exact hcc).1
    · cases exact with
      | true => have := (capOf_exact hcc).1; simp only; omega
      | false => have := capOf_least hcc; simp only; omega
  | sl hm hcap =>
    rename_i b o c' l
    have hex : exact = true → c' = d := by
      intro h; subst h
      obtain ⟨h1, h2⟩ := capOf_exact hcc
      rcases hcap with ⟨_, h⟩ | ⟨h, _⟩ <;> omega
    have hle : exact = false → c' = d + l.ex := by
      intro h; subst h
      have h1 := capOf_least hcc
      have : BIG = 1180591620717411303424 := rfl
      rcases hcap with ⟨h, _⟩ | ⟨_, h⟩ <;> omega
    refine ⟨_, c', rfl, hex, ?_, (fun hb => by cases hb), ?_⟩
    · cases exact with
      | true => have := hex rfl; simp only; omega
      | false => have := hle rfl; simp only; omega
    · intro b2 o2 sp hb
      cases hb
      exact ⟨rfl, l, hm, rfl, hcap, hle⟩

theorem aPlace_ok {μ : Mu} {h h' : Hp} {w : World} (r : WR P μ h w) {sT xT ty elem : TypeId} {size sLen n sCap : Nat} {base : Option Addr} {s' x' v : Value} {xs : List Value} {xs' : Array Value}
    (hu : P.underlying sT = some (.slice elem)) (hni : notInt P xT = true) (hsz : sizeT P elem = some size) (hs : VR μ (.slice base sLen sCap) s')
    (x1 : (Builtin.lenOf x').run P w = .ok n w) (x3 : (Builtin.firstCells size n x').run P w = .ok xs' w) (x4 : AllR μ xs.toArray xs')
    (hle : sLen + n ≤ (capOf sCap).1) (e : aPlace h size sLen n sCap base xs = some (v, h')) :
    ValOK P μ h w (Builtin.append_ #[sT, xT] ty #[s', x']) v h' := by
  obtain ⟨base', c', rfl, q1, q2, q3, q4⟩ := hs.sl_real
  unfold aPlace at e
  split at e
  · split at e
    · cases e
      obtain rfl := q3 rfl
      exact ⟨μ, .slice none (sLen + 0) c', w, run_append_in hu hni hsz x1 x3 (by omega) (by simp), hs, r, Fr.refl _ _ _⟩
    · cases e
  · rename_i b o
    split at e
    · rename_i rr tt hrow
      split at e
      · rename_i r2 hone hseg
        cases e
        obtain ⟨_, l, hm, rfl, hcap, _⟩ := q4 b o none rfl
        obtain ⟨w', k1, k2, k3⟩ := r.write (P := P) hrow hm (s' := xs'.toList) (by simpa using x4.toList) hone hseg
        exact ⟨μ, _, w', run_append_in hu hni hsz x1 x3 (by omega) (by simpa [addr_add, Nat.add_assoc] using k1), .sl hm hcap, k2, k3⟩
      · cases e
    · cases e
  · cases e

theorem aGrow_ok {μ : Mu} {h h' : Hp} {w : World} (r : WR P μ h w) {sT xT ty elem : TypeId} {i : TypeInfo} {sLen n sCap k : Nat} {base : Option Addr} {s' x' v z : Value} {xs old : List Value} {xs' : Array Value}
    (hu : P.underlying sT = some (.slice elem)) (hni : notInt P xT = true) (hi : P.info? elem = some i) (hs : VR μ (.slice base sLen sCap) s')
    (x1 : (Builtin.lenOf x').run P w = .ok n w) (x2 : xs.length = n * i.size) (x3 : ∀ w' : World, w'.heap = w.heap → (Builtin.firstCells i.size n x').run P w' = .ok xs' w') (x4 : AllR μ xs.toArray xs')
    (hgt : ¬ sLen + n ≤ (capOf sCap).1) (c1 : sLen + n ≤ 200) (c2 : i.bytes ≤ 1048576) (c3 : 0 < i.bytes) (c4 : sLen ≤ (capOf sCap).1) (c5 : h.room = true) (hz : i.zero = some z) (hzs : i.size ≤ z.cells.size)
    (hold : aCells h i.size (.slice base sLen sCap) = some (k, old)) (e : aGrow h elem i.size sLen n (capOf sCap).1 (capOf sCap).2 base old xs = some (v, h')) (f : Fresh μ h h') :
    ValOK P μ h w (Builtin.append_ #[sT, xT] ty #[s', x']) v h' := by
  have hBIG : BIG = 1180591620717411303424 := rfl
  obtain ⟨o1, o2, old', o3, o4⟩ := aCells_ok r hs hold
  obtain ⟨base', c', rfl, q1, q2, q3, q4⟩ := hs.sl_real
  have hk : k = sLen := by
    have h0 : (Builtin.lenOf (.slice base' sLen c')).run P w = .ok sLen w := by simp [Builtin.lenOf]
    rw [h0] at o1
    injection o1 with o1; exact o1.symm
  subst hk
  have hz' : zeroT P elem = some z := by simp [zeroT, hi, hz]
  have hsz : sizeT P elem = some i.size := by simp [sizeT, hi]
  have hgrow : ∀ {h0 : Hp}, WR P μ h0 w → h0.room = true → μ h0.nx = none → c' < k + n →
      ∃ μ' v' w', (Builtin.append_ #[sT, xT] ty #[.slice base' k c', x']).run P w = .ok v' w' ∧ VR μ' (.slice (some ⟨h0.nx, 0, none⟩) (k + n) (BIG + (k + n))) v' ∧ WR P μ' (h0.new (.cells (old ++ xs) elem)) w' ∧ Fr μ h0 w μ' (h0.new (.cells (old ++ xs) elem)) w' := by
    intro h0 r0 hroom hf hlt
    obtain ⟨ex, w1, ⟨e1, e1o, e1p⟩, e2⟩ := run_append_grow (ty := ty) hu hni hsz x1 hi c2 c3 hz' x3 o3 hlt c1
    have r1 := r0.heap e1
    have hor : OR P (μ.add h0.nx ⟨w1.heap.size, 0, ex⟩) ⟨w1.heap.size, 0, ex⟩ (.cells (old ++ xs) elem) (.cells (old' ++ xs' ++ Builtin.zeroCells z.cells ex) elem) :=
      OR.grown hi hzs ((LR.zero_app o4 x4).mono (Mu.le_add _ hf))
    obtain ⟨k1, k2⟩ := r1.new hroom hf hor
    refine ⟨_, _, _, e2, ?_, k1, (Fr.heap e1 e1o e1p).trans k2⟩
    have hv := VR.sl (μ := μ.add h0.nx ⟨w1.heap.size, 0, ex⟩) (b := h0.nx) (o := 0) (n := k + n) (c := BIG + (k + n)) (c' := k + n + ex) (Mu.add_self _ _ _) (.inr ⟨by omega, by show k + n + ex = BIG + (k + n) - BIG + ex; omega⟩)
    simpa [e1] using hv
  unfold aGrow at e
  split at e
  · rename_i hex
    cases e
    exact hgrow r c5 f.new (by rw [q1 hex]; omega)
  · rename_i hex
    split at e
    · rename_i b o
      split at e
      · rename_i rr tt hrow
        split at e
        · rename_i hcond2
          cases e
          simp only [Bool.and_eq_true, Nat.beq_eq] at hcond2
          obtain ⟨⟨d1, d2⟩, d3⟩ := hcond2
          subst d1
          obtain ⟨_, l, hm, rfl, hcap, hc'⟩ := q4 b o none rfl
          obtain rfl := hc' hex
          have hf : μ h.nx = none := f _ (Nat.le_refl _) (Nat.lt_succ_self _)
          by_cases hfit : k + n ≤ (capOf sCap).1 + l.ex
          · -- there was room
            obtain ⟨l2, cc, i2, hm2, hg, hi2, hsz2, hc⟩ := r.row hrow
            rw [hm] at hm2; cases hm2
            rw [hi] at hi2; cases hi2
            have hseg : seg rr o (k * i.size) = some old := by
              unfold aCells at hold
              simp only [hrow] at hold
              split at hold
              · rename_i s0 hs0; cases hold; exact hs0
              · cases hold
            obtain ⟨hsl, hso⟩ := seg_some hseg
            generalize hd : (capOf sCap).1 = d at *
            have hspace : l.sh + o + k * i.size + n * i.size ≤ cc.size := by
              have h1 : (k + n) * i.size ≤ (d + l.ex) * i.size := Nat.mul_le_mul_right _ hfit
              rw [Nat.add_mul, Nat.add_mul] at h1
              rw [← d2] at hsz2
              omega
            have hxl : xs'.toList.length = xs.length := by have := x4.1; simp at this; simp [this]
            have hone : ∀ y ∈ xs'.toList, y.oneCell' = true := by
              intro y hy
              obtain ⟨j, hj⟩ := List.mem_iff_getElem?.1 hy
              have hjl : j < xs.length := by rw [← hxl]; exact (List.getElem?_eq_some_iff.1 hj).1
              exact (x4.2 j _ _ (by simp [hjl]) (by simpa using hj)).one (List.all_eq_true.1 d3 xs[j] (by simp))
            have hst := run_storeCells_at P l.blk (l.sh + o + k * i.size) tt xs'.toList 0 cc w hg (by rw [hxl, x2]; omega) hone
            rw [setRow_set _ _ _ _ _ _ hg] at hst
            have hl' : (⟨l.blk, l.sh + o, d + l.ex - (k + n)⟩ : Spot).blk = l.blk := rfl
            have hle := Mu.le_add (μ := μ) ⟨l.blk, l.sh + o, d + l.ex - (k + n)⟩ hf
            have hol : old.length = k * i.size := o2
            obtain ⟨k1, k2⟩ := r.fork (l' := ⟨l.blk, l.sh + o, d + l.ex - (k + n)⟩) (o := .cells (old ++ xs) tt)
              (o' := .cells (cc.toList.take (l.sh + o + k * i.size + 0) ++ xs'.toList ++ cc.toList.drop (l.sh + o + k * i.size + 0 + xs'.toList.length)).toArray tt (0, 0)) c5 hf (Hp.live_row hrow) hm hl' (by
                refine .cells hi ?_ ?_
                · simp only [List.size_toArray, List.length_append, List.length_take, List.length_drop, Array.length_toList]
                  simp only [Array.length_toList] at hxl
                  have h1 : (d + l.ex - (k + n)) * i.size + (k + n) * i.size = (d + l.ex) * i.size := by rw [← Nat.add_mul]; congr 1; omega
                  have h2 : (d + l.ex) * i.size = d * i.size + l.ex * i.size := Nat.add_mul _ _ _
                  have h3 : (k + n) * i.size = k * i.size + n * i.size := Nat.add_mul _ _ _
                  rw [← d2] at hsz2
                  omega
                · intro j x hx
                  simp only [List.getElem?_toArray, Nat.add_zero]
                  have htl : (cc.toList.take (l.sh + o + k * i.size)).length = l.sh + o + k * i.size := by simp; omega
                  by_cases hj : j < old.length
                  · rw [List.getElem?_append_left hj] at hx
                    have hx' : rr[o + j]? = some x := by
                      rw [hso, List.getElem?_take, if_pos (by omega), List.getElem?_drop] at hx; exact hx
                    obtain ⟨y, hy, hv⟩ := hc _ _ hx'
                    refine ⟨y, ?_, hv.mono hle⟩
                    rw [List.append_assoc, List.getElem?_append_left (by rw [htl]; omega), List.getElem?_take, if_pos (by omega)]
                    rw [show l.sh + o + j = l.sh + (o + j) by omega]
                    simpa using hy
                  · rw [List.getElem?_append_right (by omega)] at hx
                    have hj2 : j - old.length < xs.length := (List.getElem?_eq_some_iff.1 hx).1
                    have hj3 : j - old.length < xs'.toList.length := by rw [hxl]; exact hj2
                    refine ⟨xs'.toList[j - old.length], ?_, (x4.2 (j - old.length) _ _ (by simpa using hx) (by simp)).mono hle⟩
                    rw [List.append_assoc, List.getElem?_append_right (by rw [htl]; omega), htl, show l.sh + o + j - (l.sh + o + k * i.size) = j - old.length by omega, List.getElem?_append_left hj3, List.getElem?_eq_getElem hj3]) (fun x hx => by
                rw [hg] at hx; cases hx
                intro c t f e; cases e
                exact ⟨_, rfl, by simp only [List.size_toArray, List.length_append, List.length_take, List.length_drop, Array.length_toList]; simp only [Array.length_toList] at hxl; omega⟩)
            refine ⟨_, _, _, run_append_in hu hni hsz x1 (x3 w rfl) hfit (by show (storeCells ((⟨l.blk, l.sh + o, none⟩ : Addr).add (k * i.size)) xs'.toList).run P w = _; rw [addr_add]; exact hst), ?_, k1, k2⟩
            have hv := VR.sl (μ := μ.add h.nx ⟨l.blk, l.sh + o, d + l.ex - (k + n)⟩) (b := h.nx) (o := 0) (n := k + n) (c := BIG + (k + n)) (c' := d + l.ex) (Mu.add_self _ _ _) (.inr ⟨by omega, by simp only; omega⟩)
            simpa using hv
          · obtain ⟨rk, fk⟩ := r.kill (Hp.get_lt (Hp.row_get hrow))
            obtain ⟨μ', v', w', k1, k2, k3, k4⟩ := hgrow rk c5 hf (by omega)
            exact ⟨μ', v', w', k1, k2, k3, fk.trans k4⟩
        · cases e
      · cases e
    · cases e

theorem aAppend_ok {μ : Mu} {h h' : Hp} {w : World} (r : WR P μ h w) {sT xT ty : TypeId} {s s' x x' v : Value} (hs : VR μ s s') (hx : VR μ x x') (e : aAppend P h sT xT s x = some (v, h')) (f : Fresh μ h h') :
    ValOK P μ h w (Builtin.append_ #[sT, xT] ty #[s', x']) v h' := by
  unfold aAppend at e
  split at e
  · rename_i elem hu
    split at e
    · rename_i i hi
      split at e
      · rename_i base sLen sCap
        split at e
        · rename_i hni
          split at e
          · rename_i n xs hxs
            obtain ⟨x1, x2, xs', x3, x4⟩ := aCells_ok r hx hxs
            split at e
            · rename_i hle
              exact aPlace_ok r hu hni (by simp [sizeT, hi]) hs x1 (x3 w rfl) x4 (by simpa using hle) e
            · rename_i hle
              have hgt : ¬ sLen + n ≤ (capOf sCap).1 := fun h => by rw [← Nat.ble_eq] at h; rw [h] at hle; cases hle
              split at e
              · rename_i hcond
                simp only [Bool.and_eq_true, Nat.ble_eq, Nat.blt_eq] at hcond
                obtain ⟨⟨⟨⟨c1, c2⟩, c3⟩, c4⟩, c5⟩ := hcond
                split at e
                · rename_i z hz
                  split at e
                  · rename_i hzs
                    split at e
                    · rename_i k old hold
                      exact aGrow_ok r hu hni hi hs x1 x2 x3 x4 hgt c1 c2 c3 c4 c5 hz (by simpa using hzs) hold e f
                    · cases e
                  · cases e
                · cases e
              · cases e
          · cases e
        · cases e
      · cases e
    · cases e
  · cases e

end
end Go.Ev

/-! The evaluator's make of a slice and of a map, its lookups and stores in maps, and its steps over a map. -/
namespace Go.Ev
open Go

section
variable {P : Program}

def aMakeSlice (P : Program) (h : Hp) (t : TypeId) (len cap : Value) : Option (Value × Hp) :=
  match P.underlying t with
  | some (.slice elem) => match P.info? elem with
    | some i => match natOf len, natOf cap, i.zero with
      | some l, some c, some z =>
        match Nat.ble l c && Nat.ble c 4096 && Nat.ble i.bytes 1048576 && z.cells.toList.all (gr 5) with
        | true => match aNew P h elem ((Array.range (c * i.size)).map ((if c * i.size = 0 then (#[] : Array Value) else z.cells)[· % (if c * i.size = 0 then (#[] : Array Value) else z.cells).size]!)).toList with
          | some (.pointer (some a), h') => some (.slice (some a) l c, h')
          | _ => none
        | false => none
      | _, _, _ => none
    | none => none
  | _ => none

theorem aMakeSlice_ok {μ : Mu} {h h' : Hp} {w : World} (r : WR P μ h w) {t : TypeId} {len len' cap cap' : Value} {v : Value} (hl : VR μ len len') (hc : VR μ cap cap') (e : aMakeSlice P h t len cap = some (v, h')) (f : Fresh μ h h') :
    ValOK P μ h w (Instr.makeSlice t len' cap') v h' := by
  unfold aMakeSlice at e
  split at e
  · rename_i elem hu
    split at e
    · rename_i i hi
      split at e
      · rename_i l c z hln hcn hz
        obtain ⟨k, rfl⟩ := natOf_spec hln
        obtain ⟨k', rfl⟩ := natOf_spec hcn
        obtain rfl := hl.int_inv
        obtain rfl := hc.int_inv
        split at e
        · rename_i hcond
          simp only [Bool.and_eq_true, Nat.ble_eq] at hcond
          obtain ⟨⟨⟨c1, c2⟩, c3⟩, c4⟩ := hcond
          generalize hzz : (if c * i.size = 0 then (#[] : Array Value) else z.cells) = zz at e
          split at e
          · rename_i a h2' hnew
            cases e
            have hbase : ((Array.range (c * i.size)).map (zz[· % zz.size]!)).toList.all (gr 5) = true := by
              rw [List.all_eq_true]
              intro x hx
              simp only [Array.toList_map, List.mem_map] at hx
              obtain ⟨j, _, rfl⟩ := hx
              by_cases hj : j % zz.size < zz.size
              · rw [getElem!_pos zz _ hj]
                have hmem : zz[j % zz.size] ∈ zz.toList := by simp
                have : zz.toList.all (gr 5) = true := by
                  rw [← hzz]; split
                  · rfl
                  · exact c4
                exact List.all_eq_true.1 this _ hmem
              · rw [getElem!_neg zz _ hj]; rfl
            obtain ⟨μ', w', q1, q2, q3, q4⟩ := aNew_ok r (AllR.refl_ground (μ := μ) hbase).toList hnew f
            refine ⟨μ', .slice (some ⟨w.heap.size, 0, none⟩) l c, w', ?_, ?_, q3, q4⟩
            · unfold Instr.makeSlice
              have hz' : zeroT P elem = some z := by simp [zeroT, hi, hz]
              have hs' : sizeT P elem = some i.size := by simp [sizeT, hi]
              have hwl : IntKind.i64.wrap (l : Int) = l := IntWalk.i64_in _ (by omega)
              have hwc : IntKind.i64.wrap (c : Int) = c := IntWalk.i64_in _ (by omega)
              have hb' : ¬ ((281474976710656 : Int) < (i.bytes : Int) * (c : Int)) := by
                have h1 : i.bytes * c ≤ 1048576 * 4096 := Nat.mul_le_mul c3 c2
                rw [← Int.natCast_mul]
                omega
              have hlt : ¬ ((c : Int) < (l : Int)) := by omega
              have hc0 : ¬ ((c : Int) < 0) := by omega
              have hl0 : ¬ ((l : Int) < 0) := by omega
              have hti : ∀ w, (typeInfo elem).run P w = .ok i w := fun w => run_typeInfo' hi w
              by_cases h0 : c * i.size = 0
              · rw [if_pos h0] at hzz
                subst hzz
                simp only [h0] at q1
                simp [run_underlying hu, asInt, asIntOf, hti, hwl, hwc, run_sizeT hs', h0, hlt, hb', hc0, hl0]
                have q1' : (newRow elem (Array.map (fun _ => default) (Array.range 0))).run P w = .ok ⟨w.heap.size, 0, none⟩ w' := q1
                rw [q1']; rfl
              · rw [if_neg h0] at hzz
                subst hzz
                simp [run_underlying hu, asInt, asIntOf, hti, hwl, hwc, run_sizeT hs', hlt, hb', hc0, hl0, run_zeroT hz', h0]
                rw [q1]; rfl
            · obtain ⟨x, hb, hsp, hv⟩ := q2.ptr_inv
              obtain ⟨ab, ao, asp⟩ := a
              simp only at hsp hb hv
              subst hsp
              have e0 : (⟨w.heap.size, 0, none⟩ : Addr) = ⟨x.blk, x.sh + ao, none⟩ := by injection hv with hv; injection hv
              rw [e0]
              exact .sl hb (.inl ⟨by unfold BIG; omega, rfl⟩)
          · cases e
        · cases e
      · cases e
    · cases e
  · cases e

def aMakeMap (h : Hp) : Option (Value × Hp) :=
  match h.room with
  | true => some (.map (some h.nx), h.new (.map [] 0))
  | false => none

theorem aMakeMap_ok {μ : Mu} {h h' : Hp} {w : World} (r : WR P μ h w) {t : TypeId} {v : Value} (e : aMakeMap h = some (v, h')) (f : Fresh μ h h') :
    ValOK P μ h w (Instr.makeMap t none) v h' := by
  unfold aMakeMap at e
  split at e
  · rename_i hr
    cases e
    obtain ⟨a, b⟩ := r.new (o := .map [] 0) (o' := .map #[] 0) (ex := 0) hr f.new (.map rfl ⟨rfl, fun i x y hx _ => by simp at hx⟩)
    exact ⟨_, .map (some w.heap.size), _, by simp [Instr.makeMap], .map (x := ⟨w.heap.size, 0, 0⟩) (Mu.add_self _ _ _) rfl, a, b⟩
  · cases e

/-! ### Maps -/
def keysG (es : List MapEntry) : Bool := es.all fun e => gr 5 e.key

theorem EnsR.uncons {μ : Mu} {e e' : MapEntry} {es es' : List MapEntry} (r : EnsR μ (e :: es) (e' :: es')) : EnR μ e e' ∧ EnsR μ es es' :=
  ⟨r.2 0 e e' (by simp) (by simp), ⟨by simpa using r.1, fun i x y hx hy => r.2 (i + 1) x y (by simpa using hx) (by simpa using hy)⟩⟩

def FoR (μ : Mu) : Option (Nat × Value) → Option (Nat × Value) → Prop
  | none, none => True
  | some (i, v), some (i', v') => i = i' ∧ VR μ v v'
  | _, _ => False

theorem findNow_rel {μ : Mu} (d : TypeDesc) (k : Value) : ∀ (es es' : List MapEntry) (i : Nat), keysG es = true → EnsR μ es es' →
    (Instr.findNow d k es i = none ∧ Instr.findNow d k es' i = none) ∨ ∃ r r', Instr.findNow d k es i = some r ∧ Instr.findNow d k es' i = some r' ∧ FoR μ r r' := by
  intro es
  induction es with
  | nil =>
    intro es' i _ h
    cases es' with
    | nil => exact .inr ⟨none, none, rfl, rfl, trivial⟩
    | cons _ _ => simp [EnsR] at h
  | cons e es ih =>
    intro es' i hg h
    cases es' with
    | nil => simp [EnsR] at h
    | cons e' es' =>
      obtain ⟨h1, h2⟩ := h.uncons
      simp only [keysG, List.all_cons, Bool.and_eq_true] at hg
      have hk : e'.key = e.key := gr_eq 5 _ _ hg.1 h1.1
      simp only [Instr.findNow, hk]
      cases hs : Instr.sameNow d k e.key with
      | none => exact .inl ⟨rfl, rfl⟩
      | some b =>
        cases b with
        | true => exact .inr ⟨_, _, rfl, rfl, rfl, h1.2.1⟩
        | false => exact ih es' (i + 1) hg.2 h2

theorem findAsking_rel {μ : Mu} (t : TypeId) (k : Value) : ∀ (es es' : List MapEntry) (i : Nat) (r : Option (Nat × Value)), keysG es = true → EnsR μ es es' → runFree P (Instr.findAsking t k es i) = some r →
    ∃ r', runFree P (Instr.findAsking t k es' i) = some r' ∧ FoR μ r r' := by
  intro es
  induction es with
  | nil =>
    intro es' i r _ h e
    cases es' with
    | nil => simp only [Instr.findAsking, runFree, Pure.pure, Option.some.injEq] at e ⊢; subst e; exact ⟨none, rfl, trivial⟩
    | cons _ _ => simp [EnsR] at h
  | cons x es ih =>
    intro es' i r hg h e
    cases es' with
    | nil => simp [EnsR] at h
    | cons x' es' =>
      obtain ⟨h1, h2⟩ := h.uncons
      simp only [keysG, List.all_cons, Bool.and_eq_true] at hg
      have hk : x'.key = x.key := gr_eq 5 _ _ hg.1 h1.1
      simp only [Instr.findAsking, runFree_bind, hk] at e ⊢
      cases hs : runFree P (Op.equal t k x.key) with
      | none => rw [hs] at e; cases e
      | some b =>
        rw [hs] at e
        simp only [Option.bind_some] at e ⊢
        cases b with
        | true =>
          simp only [if_true, runFree, Pure.pure, Option.some.injEq] at e ⊢
          subst e
          exact ⟨_, rfl, rfl, h1.2.1⟩
        | false =>
          simp only [Bool.false_eq_true, if_false] at e ⊢
          exact ih es' (i + 1) r hg.2 h2 e

theorem findKey_rel {μ : Mu} {t : TypeId} {k : Value} {es es' : List MapEntry} {r : Option (Nat × Value)} (hg : keysG es = true) (h : EnsR μ es es') (e : runFree P (Instr.findKey t k es) = some r) :
    ∃ r', runFree P (Instr.findKey t k es') = some r' ∧ FoR μ r r' := by
  simp only [Instr.findKey, runFree_bind] at e ⊢
  cases hu : runFree P (underlying t) with
  | none => rw [hu] at e; cases e
  | some d =>
    rw [hu] at e
    simp only [Option.bind_some] at e ⊢
    rcases findNow_rel (μ := μ) d k es es' 0 hg h with ⟨h1, h2⟩ | ⟨r1, r2, h1, h2, h3⟩
    · rw [h1] at e
      rw [h2]
      exact findAsking_rel t k es es' 0 r hg h e
    · rw [h1] at e
      rw [h2]
      simp only [runFree, Pure.pure, Option.some.injEq] at e ⊢
      subst e
      exact ⟨r2, rfl, h3⟩

theorem OR.map_inv {μ : Mu} {l : Spot} {es : List MapEntry} {k : Nat} {o' : Obj} (r : OR P μ l (.map es k) o') : l.sh = 0 ∧ ∃ es', o' = .map es' k ∧ EnsR μ es es'.toList := by
  cases r with
  | map a b => exact ⟨a, _, rfl, b⟩

theorem VR.map_inv {μ : Mu} {b : Nat} {v' : Value} (r : VR μ (.map (some b)) v') : ∃ x, μ b = some x ∧ x.sh = 0 ∧ v' = .map (some x.blk) := by
  cases r with
  | map h s => exact ⟨_, h, s, rfl⟩

theorem run_getObj {w : World} {r : Nat} {o : Obj} (h : w.heap[r]? = some o) (hc : ∀ c t f, o ≠ .cells c t f) : (getObj r).run P w = .ok o w := by
  cases o <;> first | (simp only [getObj, Sem.run, h]; done) | exact absurd rfl (hc _ _ _)

theorem run_setObj {w : World} {r : Nat} {o : Obj} (o2 : Obj) (h : w.heap[r]? = some o) (hc : ∀ c t f, o ≠ .cells c t f) : (setObj r o2).run P w = .ok () { w with heap := w.heap.setIfInBounds r o2 } := by
  cases o <;> first | (simp only [setObj, Sem.run, h]; done) | exact absurd rfl (hc _ _ _)

def aLookup (P : Program) (h : Hp) (t : TypeId) (m k : Value) (ok : Bool) : Option Value :=
  match P.underlying t with
  | some (.map kt et) => match gr 5 k, zeroT P et with
    | true, some z =>
      match m with
      | .map (some b) => match h.get b with
        | some (.map es _) => match runFree P (Instr.checkKey es.isEmpty 10000 kt k), keysG es, runFree P (Instr.findKey kt k es), gr 6 z with
          | some _, true, some r, true => match r with
            | some (_, v) => some (if ok then .tuple #[v, .bool true] else v)
            | none => some (if ok then .tuple #[z, .bool false] else z)
          | _, _, _, _ => none
        | _ => none
      | _ => none
    | _, _ => none
  | _ => none

theorem VR.pair {μ : Mu} {a a' b b' : Value} (h : VR μ a a') (k : VR μ b b') : VR μ (.tuple #[a, b]) (.tuple #[a', b']) :=
  .tuple rfl fun i x y hx hy => by
    match i with
    | 0 => simp at hx hy; subst hx; subst hy; exact h
    | 1 => simp at hx hy; subst hx; subst hy; exact k
    | n + 2 => simp at hx

theorem aLookup_ok {μ : Mu} {h : Hp} {w : World} (r : WR P μ h w) {t : TypeId} {m m' k k' v : Value} {ok : Bool} (hm : VR μ m m') (hk : VR μ k k') (e : aLookup P h t m k ok = some v) :
    ∃ v', (Instr.lookup t m' k' ok).run P w = .ok v' w ∧ VR μ v v' := by
  unfold aLookup at e
  split at e
  · rename_i kt et hu
    split at e
    · rename_i z hgk hz
      obtain rfl := gr_eq 5 _ _ hgk hk
      split at e
      · rename_i b
        split at e
        · rename_i es clock hget
          split at e
          · rename_i u rr hck hkg hf hgz
            obtain ⟨x, hx1, hx2, rfl⟩ := hm.map_inv
            obtain ⟨l, o', a1, a2, a3⟩ := r.live b _ hget rfl
            rw [hx1] at a1; cases a1
            obtain ⟨_, es', rfl, he⟩ := a3.map_inv
            obtain ⟨r', f1, f2⟩ := findKey_rel hkg he hf
            have hemp : es'.isEmpty = es.isEmpty := by
              have h1 : es.length = es'.size := by simpa using he.1
              cases es with
              | nil =>
                have h2 : es'.size = 0 := by simpa using h1.symm
                simp [Array.isEmpty, h2]
              | cons _ _ =>
                have h2 : es'.size ≠ 0 := by simp at h1; omega
                simp only [Array.isEmpty, List.isEmpty_cons, decide_eq_false_iff_not]; exact h2
            have hck' : (Instr.checkKey es'.isEmpty 10000 kt k').run P w = .ok u w := by rw [hemp]; exact runFree_ok _ _ w hck
            have hgo : (getObj x.blk).run P w = .ok (.map es' clock) w := run_getObj a2 (fun _ _ _ h => by cases h)
            split at e
            · rename_i j y
              cases e
              cases r' with
              | none => cases f2
              | some q =>
                obtain ⟨j', y'⟩ := q
                obtain ⟨_, hv⟩ := f2
                refine ⟨if ok then .tuple #[y', .bool true] else y', ?_, ?_⟩
                · unfold Instr.lookup
                  simp [run_underlying hu, hgo, hck', runFree_ok _ _ w f1]
                · cases ok
                  · exact hv
                  · exact hv.pair (.bool true)
            · cases e
              cases r' with
              | some q => cases f2
              | none =>
                refine ⟨if ok then .tuple #[z, .bool false] else z, ?_, ?_⟩
                · unfold Instr.lookup
                  simp [run_underlying hu, hgo, hck', runFree_ok _ _ w f1, run_zeroT hz]
                · cases ok
                  · exact gr_refl 6 _ hgz
                  · exact (gr_refl 6 _ hgz).pair (.bool false)
          · cases e
        · cases e
      · cases e
    · cases e
  · cases e

end
end Go.Ev

/-! The evaluator's stores in maps, and its steps over a map. -/
namespace Go.Ev
open Go

section
variable {P : Program}

theorem EnsR.modify {μ : Mu} {es es' : List MapEntry} (r : EnsR μ es es') (i : Nat) {f f' : MapEntry → MapEntry} (hf : ∀ e e', EnR μ e e' → EnR μ (f e) (f' e')) : EnsR μ (es.modify i f) (es'.modify i f') := by
  refine ⟨by simp [r.1], fun j x y hx hy => ?_⟩
  rw [List.getElem?_modify] at hx hy
  cases h1 : es[j]? with
  | none => rw [h1] at hx; cases hx
  | some a =>
    cases h2 : es'[j]? with
    | none => rw [h2] at hy; cases hy
    | some b =>
      rw [h1] at hx; rw [h2] at hy
      have := r.2 j a b h1 h2
      by_cases hij : i = j
      · simp [hij] at hx hy; subst hx; subst hy; exact hf _ _ this
      · simp [hij] at hx hy; subst hx; subst hy; exact this

theorem EnsR.push {μ : Mu} {es es' : List MapEntry} (r : EnsR μ es es') {e e' : MapEntry} (he : EnR μ e e') : EnsR μ (es ++ [e]) (es' ++ [e']) := by
  refine ⟨by simp [r.1], fun j x y hx hy => ?_⟩
  by_cases hj : j < es.length
  · rw [List.getElem?_append_left hj] at hx
    rw [List.getElem?_append_left (r.1 ▸ hj)] at hy
    exact r.2 j x y hx hy
  · rw [List.getElem?_append_right (Nat.le_of_not_lt hj)] at hx
    rw [List.getElem?_append_right (by rw [← r.1]; exact Nat.le_of_not_lt hj), ← r.1] at hy
    have h0 : j - es.length = 0 := by
      have := (List.getElem?_eq_some_iff.1 hx).1
      simp at this; omega
    rw [h0] at hx hy
    simp at hx hy; subst hx; subst hy; exact he

def Hp.mapAt (h : Hp) (b : Nat) : Option (List MapEntry × Nat) :=
  match h.get b with
  | some (.map es k) => some (es, k)
  | _ => none
theorem Hp.mapAt_get {h : Hp} {b : Nat} {es : List MapEntry} {k : Nat} (e : h.mapAt b = some (es, k)) : h.get b = some (.map es k) := by
  unfold Hp.mapAt at e
  split at e <;> simp_all

theorem WR.mapAt {μ : Mu} {h : Hp} {w : World} (r : WR P μ h w) {b : Nat} {es : List MapEntry} {k : Nat} {x : Spot} (e : h.mapAt b = some (es, k)) (hx : μ b = some x) :
    x.sh = 0 ∧ ∃ es', w.heap[x.blk]? = some (.map es' k) ∧ EnsR μ es es'.toList := by
  obtain ⟨l, o', a1, a2, a3⟩ := r.live b _ (Hp.mapAt_get e) rfl
  rw [hx] at a1; cases a1
  obtain ⟨h0, es', rfl, he⟩ := a3.map_inv
  exact ⟨h0, es', a2, he⟩

theorem WR.putMap {μ : Mu} {h : Hp} {w : World} (r : WR P μ h w) {b : Nat} {es es2 : List MapEntry} {es2' : Array MapEntry} {k k2 : Nat} {x : Spot} (e : h.mapAt b = some (es, k)) (hx : μ b = some x) (hs : x.sh = 0) (he : EnsR μ es2 es2'.toList) :
    WR P μ (h.put b (.map es2 k2)) { w with heap := w.heap.setIfInBounds x.blk (.map es2' k2) } ∧ Fr μ h w μ (h.put b (.map es2 k2)) { w with heap := w.heap.setIfInBounds x.blk (.map es2' k2) } :=
  r.put ⟨_, Hp.mapAt_get e, rfl⟩ hx (.map hs he) (r.sameRow (Hp.mapAt_get e) rfl hx fun _ _ e => by cases e)

def aMapUpdate (P : Program) (h : Hp) (t : TypeId) (m k v : Value) : Option Hp :=
  match P.underlying t with
  | some (.map kt _) => match m with
    | .map (some b) => match h.mapAt b with
      | some (es, clock) => match gr 5 k && keysG es, runFree P (Instr.checkKey false 10000 kt k), runFree P (Instr.findKey kt k es) with
        | true, some _, some (some (i, _)) => match runFree P (Instr.keyThatStays (((es[i]?).map (·.key)).getD k) k) with
          | some k2 => match gr 5 k2 with
            | true => some (h.put b (.map (es.modify i fun e => { e with key := k2, val := v }) clock))
            | false => none
          | none => none
        | true, some _, some none => some (h.put b (.map (es ++ [{ key := k, val := v, born := clock }]) (clock + 1)))
        | _, _, _ => none
      | none => none
    | _ => none
  | _ => none

theorem keysG_get {es : List MapEntry} (hg : keysG es = true) {i : Nat} {e : MapEntry} (h : es[i]? = some e) : gr 5 e.key = true :=
  List.all_eq_true.1 hg e (List.mem_of_getElem? h)

theorem EnsR.keyAt {μ : Mu} {es : List MapEntry} {es' : Array MapEntry} (r : EnsR μ es es'.toList) (hg : keysG es = true) (i : Nat) (k : Value) :
    ((es'[i]?).map (·.key)).getD k = ((es[i]?).map (·.key)).getD k := by
  cases h1 : es[i]? with
  | none =>
    have : es'[i]? = none := by
      rw [← Array.getElem?_toList, List.getElem?_eq_none_iff, ← r.1]; exact List.getElem?_eq_none_iff.1 h1
    rw [this]
  | some e =>
    have hi : i < es'.toList.length := by rw [← r.1]; exact (List.getElem?_eq_some_iff.1 h1).1
    have h2 : es'.toList[i]? = some es'.toList[i] := List.getElem?_eq_getElem hi
    have := (r.2 i _ _ h1 h2).1
    rw [← Array.getElem?_toList, h2]
    simp only [Option.map_some, Option.getD_some]
    exact gr_eq 5 _ _ (keysG_get hg h1) this

theorem aMapUpdate_ok {μ : Mu} {h h' : Hp} {w : World} (r : WR P μ h w) {t : TypeId} {m m' k k' v v' : Value} (hm : VR μ m m') (hk : VR μ k k') (hv : VR μ v v') (e : aMapUpdate P h t m k v = some h') :
    ∃ w', (Instr.mapUpdate t m' k' v').run P w = .ok () w' ∧ WR P μ h' w' ∧ Fr μ h w μ h' w' := by
  unfold aMapUpdate at e
  split at e
  · rename_i kt et hu
    split at e
    · rename_i b
      split at e
      · rename_i es clock hmap
        obtain ⟨x, hx1, hx2, rfl⟩ := hm.map_inv
        obtain ⟨hs, es', a2, he⟩ := r.mapAt hmap hx1
        have hgo : (getObj x.blk).run P w = .ok (.map es' clock) w := run_getObj a2 (fun _ _ _ h => by cases h)
        split at e
        · rename_i u i y hgk hck hf
          simp only [Bool.and_eq_true] at hgk
          obtain rfl := gr_eq 5 _ _ hgk.1 hk
          obtain ⟨r', f1, f2⟩ := findKey_rel hgk.2 he hf
          split at e
          · rename_i k2 hkt
            split at e
            · rename_i hg2
              cases e
              cases r' with
              | none => cases f2
              | some q =>
                obtain ⟨j', y'⟩ := q
                obtain ⟨hij, _⟩ := f2
                subst hij
                obtain ⟨k1, k3⟩ := r.putMap (k2 := clock) hmap hx1 hs (es2 := es.modify i fun e => { e with key := k2, val := v }) (es2' := es'.modify i fun e => { e with key := k2, val := v' }) (by
                  rw [Array.toList_modify]
                  exact he.modify i fun e e' hee => ⟨gr_refl 5 _ hg2, hv, hee.2.2⟩)
                refine ⟨_, ?_, k1, k3⟩
                unfold Instr.mapUpdate
                rw [← he.keyAt hgk.2] at hkt
                simp [run_underlying hu, hgo, runFree_ok _ _ w hck, runFree_ok _ _ w f1, runFree_ok _ _ w hkt, run_setObj _ a2 (fun _ _ _ h => by cases h)]
            · cases e
          · cases e
        · rename_i u hgk hck hf
          simp only [Bool.and_eq_true] at hgk
          obtain rfl := gr_eq 5 _ _ hgk.1 hk
          obtain ⟨r', f1, f2⟩ := findKey_rel hgk.2 he hf
          cases e
          cases r' with
          | some q => cases f2
          | none =>
            obtain ⟨k1, k3⟩ := r.putMap (k2 := clock + 1) hmap hx1 hs (es2 := es ++ [{ key := k', val := v, born := clock }]) (es2' := es'.push { key := k', val := v', born := clock }) (by
              rw [Array.toList_push]
              exact he.push ⟨hk, hv, rfl⟩)
            refine ⟨_, ?_, k1, k3⟩
            unfold Instr.mapUpdate
            simp [run_underlying hu, hgo, runFree_ok _ _ w hck, runFree_ok _ _ w f1, run_setObj _ a2 (fun _ _ _ h => by cases h)]
        · cases e
      · cases e
    · cases e
  · cases e

def aMapEntry (P : Program) (h : Hp) (t : TypeId) (m k : Value) : Option (Value × Hp) :=
  match P.underlying t with
  | some (.map kt et) => match m with
    | .map (some b) => match h.mapAt b with
      | some (es, clock) => match gr 5 k && keysG es, runFree P (Instr.checkKey false 10000 kt k), runFree P (Instr.findKey kt k es) with
        | true, some _, some (some (i, v)) => match runFree P (Instr.keyThatStays (((es[i]?).map (·.key)).getD k) k) with
          | some k2 => match gr 5 k2, es[i]? with
            | true, some en => some (.tuple #[v, .int .i64 (Int.ofNat en.born)], h.put b (.map (es.modify i fun e => { e with key := k2 }) clock))
            | _, _ => none
          | none => none
        | true, some _, some none => match zeroT P et with
          | some z => match gr 6 z with
            | true => some (.tuple #[z, .int .i64 (Int.ofNat clock)], h.put b (.map (es ++ [{ key := k, val := z, born := clock }]) (clock + 1)))
            | false => none
          | none => none
        | _, _, _ => none
      | none => none
    | _ => none
  | _ => none

theorem aMapEntry_ok {μ : Mu} {h h' : Hp} {w : World} (r : WR P μ h w) {t : TypeId} {m m' k k' v : Value} (hm : VR μ m m') (hk : VR μ k k') (e : aMapEntry P h t m k = some (v, h')) :
    ∃ v' w', (Instr.mapEntry t m' k').run P w = .ok v' w' ∧ VR μ v v' ∧ WR P μ h' w' ∧ Fr μ h w μ h' w' := by
  unfold aMapEntry at e
  split at e
  · rename_i kt et hu
    split at e
    · rename_i b
      split at e
      · rename_i es clock hmap
        obtain ⟨x, hx1, hx2, rfl⟩ := hm.map_inv
        obtain ⟨hs, es', a2, he⟩ := r.mapAt hmap hx1
        have hgo : (getObj x.blk).run P w = .ok (.map es' clock) w := run_getObj a2 (fun _ _ _ h => by cases h)
        split at e
        · rename_i u i y hgk hck hf
          simp only [Bool.and_eq_true] at hgk
          obtain rfl := gr_eq 5 _ _ hgk.1 hk
          obtain ⟨r', f1, f2⟩ := findKey_rel hgk.2 he hf
          split at e
          · rename_i k2 hkt
            split at e
            · rename_i en hg2 hen
              cases e
              cases r' with
              | none => cases f2
              | some q =>
                obtain ⟨j', y'⟩ := q
                obtain ⟨hij, hvv⟩ := f2
                subst hij
                obtain ⟨k1, k3⟩ := r.putMap (k2 := clock) hmap hx1 hs (es2 := es.modify i fun e => { e with key := k2 }) (es2' := es'.modify i fun e => { e with key := k2 }) (by
                  rw [Array.toList_modify]
                  exact he.modify i fun e e' hee => ⟨gr_refl 5 _ hg2, hee.2.1, hee.2.2⟩)
                have hi : i < es'.toList.length := by rw [← he.1]; exact (List.getElem?_eq_some_iff.1 hen).1
                have h2 : es'.toList[i]? = some es'.toList[i] := List.getElem?_eq_getElem hi
                have hbo := (he.2 i _ _ hen h2).2.2
                have h3 : es'[i]? = some es'.toList[i] := by rw [← Array.getElem?_toList]; exact h2
                refine ⟨.tuple #[y', .int .i64 (Int.ofNat en.born)], _, ?_, hvv.pair (.int _ _), k1, k3⟩
                unfold Instr.mapEntry
                rw [← he.keyAt hgk.2, h3] at hkt
                simp only [Option.map_some, Option.getD_some] at hkt
                simp only [Sem.run_bind, run_underlying hu, Result.andThen_ok, hgo, runFree_ok _ _ w hck, runFree_ok _ _ w f1, runFree_ok _ _ w hkt, run_setObj _ a2 (fun _ _ _ h => by cases h), Sem.run_pure, h3, Option.map_some, Option.getD_some, hbo]
                rfl
            · cases e
          · cases e
        · rename_i u hgk hck hf
          simp only [Bool.and_eq_true] at hgk
          obtain rfl := gr_eq 5 _ _ hgk.1 hk
          obtain ⟨r', f1, f2⟩ := findKey_rel hgk.2 he hf
          split at e
          · rename_i z hz
            split at e
            · rename_i hgz
              cases e
              cases r' with
              | some q => cases f2
              | none =>
                obtain ⟨k1, k3⟩ := r.putMap (k2 := clock + 1) hmap hx1 hs (es2 := es ++ [{ key := k', val := z, born := clock }]) (es2' := es'.push { key := k', val := z, born := clock }) (by
                  rw [Array.toList_push]
                  exact he.push ⟨hk, gr_refl 6 _ hgz, rfl⟩)
                refine ⟨.tuple #[z, .int .i64 (Int.ofNat clock)], _, ?_, (gr_refl 6 _ hgz).pair (.int _ _), k1, k3⟩
                unfold Instr.mapEntry
                simp [run_underlying hu, hgo, runFree_ok _ _ w hck, runFree_ok _ _ w f1, run_zeroT hz, run_setObj _ a2 (fun _ _ _ h => by cases h), goInt]
            · cases e
          · cases e
        · cases e
      · cases e
    · cases e
  · cases e

def aEntryStore (h : Hp) (m st v : Value) : Option Hp :=
  match m with
  | .map (some b) => match h.mapAt b, st with
    | some (es, clock), .int _ n => match es.findIdx? (fun e => (e.born : Int) == n) with
      | some i => some (h.put b (.map (es.modify i fun e => { e with val := v }) clock))
      | none => none
    | _, _ => none
  | _ => none

theorem EnsR.findIdx {μ : Mu} (n : Int) : ∀ {es es' : List MapEntry}, EnsR μ es es' → es'.findIdx? (fun e => (e.born : Int) == n) = es.findIdx? (fun e => (e.born : Int) == n)
  | [], [], _ => rfl
  | [], _ :: _, h => by simp [EnsR] at h
  | _ :: _, [], h => by simp [EnsR] at h
  | e :: es, e' :: es', h => by
    obtain ⟨h1, h2⟩ := h.uncons
    simp only [List.findIdx?_cons, h1.2.2, EnsR.findIdx n h2]

theorem aEntryStore_ok {μ : Mu} {h h' : Hp} {w : World} (r : WR P μ h w) {t : TypeId} {m m' st st' v v' : Value} (hm : VR μ m m') (hst : VR μ st st') (hv : VR μ v v') (e : aEntryStore h m st v = some h') :
    ∃ w', (Instr.entryStore t m' st' v').run P w = .ok () w' ∧ WR P μ h' w' ∧ Fr μ h w μ h' w' := by
  unfold aEntryStore at e
  split at e
  · rename_i b
    split at e
    · rename_i es clock kk n hmap
      obtain ⟨x, hx1, hx2, rfl⟩ := hm.map_inv
      obtain ⟨hs, es', a2, he⟩ := r.mapAt hmap hx1
      obtain rfl := hst.int_inv
      have hgo : (getObj x.blk).run P w = .ok (.map es' clock) w := run_getObj a2 (fun _ _ _ h => by cases h)
      split at e
      · rename_i i hi
        cases e
        have hi' : es'.findIdx? (fun e => (e.born : Int) == n) = some i := by
          have h0 : es'.findIdx? (fun e => (e.born : Int) == n) = es'.toList.findIdx? (fun e => (e.born : Int) == n) := by cases es'; simp
          rw [h0, he.findIdx]; exact hi
        obtain ⟨k1, k3⟩ := r.putMap (k2 := clock) hmap hx1 hs (es2 := es.modify i fun e => { e with val := v }) (es2' := es'.modify i fun e => { e with val := v' }) (by
          rw [Array.toList_modify]
          exact he.modify i fun e e' hee => ⟨hee.1, hv, hee.2.2⟩)
        refine ⟨_, ?_, k1, k3⟩
        unfold Instr.entryStore
        simp [hgo, asInt, asIntOf, hi', run_setObj _ a2 (fun _ _ _ h => by cases h)]
      · cases e
    · cases e
  · cases e

/-! ### Ranging over a map -/
def aRange (P : Program) (h : Hp) (t : TypeId) (x : Value) : Option (Value × Hp) :=
  match P.underlying t, h.room with
  | some (.map _ _), true => match x with
    | .map (some b) => match h.mapAt b with
      | some (_, clock) => some (.pointer (some ⟨h.nx, 0, none⟩), h.new (.iter (some b) clock [] clock))
      | none => none
    | .map none => some (.pointer (some ⟨h.nx, 0, none⟩), h.new (.iter none 0 [] 0))
    | _ => none
  | _, _ => none

theorem aRange_ok {μ : Mu} {h h' : Hp} {w : World} (r : WR P μ h w) {t : TypeId} {x x' v : Value} (hx : VR μ x x') (e : aRange P h t x = some (v, h')) (f : Fresh μ h h') :
    ValOK P μ h w (Instr.range t x') v h' := by
  unfold aRange at e
  split at e
  · rename_i kt et hu hr
    split at e
    · rename_i b
      split at e
      · rename_i es clock hmap
        cases e
        obtain ⟨l, hx1, hx2, rfl⟩ := hx.map_inv
        obtain ⟨hs, es', a2, he⟩ := r.mapAt hmap hx1
        have hgo : (getObj l.blk).run P w = .ok (.map es' clock) w := run_getObj a2 (fun _ _ _ h => by cases h)
        have hle := Mu.le_add (μ := μ) ⟨w.heap.size, 0, 0⟩ f.new
        obtain ⟨k1, k2⟩ := r.new (o := .iter (some b) clock [] clock) (o' := .mapIter (some l.blk) clock [].toArray clock) (ex := 0) hr f.new (.iter rfl (hle _ _ hx1) hx2)
        refine ⟨_, .pointer (some ⟨w.heap.size, 0, none⟩), _, ?_, ?_, k1, k2⟩
        · unfold Instr.range
          simp [run_underlying hu, hgo]
        · have := VR.ptr (μ := μ.add h.nx ⟨w.heap.size, 0, 0⟩) (b := h.nx) (o := 0) (Mu.add_self _ _ _)
          simpa using this
      · cases e
    · cases e
      cases hx with
      | map0 =>
        obtain ⟨k1, k2⟩ := r.new (o := .iter none 0 [] 0) (o' := .mapIter none 0 [].toArray 0) (ex := 0) hr f.new (.iter0 rfl)
        refine ⟨_, .pointer (some ⟨w.heap.size, 0, none⟩), _, ?_, ?_, k1, k2⟩
        · unfold Instr.range
          simp [run_underlying hu]
        · have := VR.ptr (μ := μ.add h.nx ⟨w.heap.size, 0, 0⟩) (b := h.nx) (o := 0) (Mu.add_self _ _ _)
          simpa using this
    · cases e
  · cases e

end
end Go.Ev

/-! The evaluator's steps over a map: which entry comes is left open. -/
namespace Go.Ev
open Go

section
variable {P : Program}

def Hp.iterAt (h : Hp) (b : Nat) : Option (Option Nat × Nat × List Nat × Nat) :=
  match h.get b with
  | some (.iter m since seen st) => some (m, since, seen, st)
  | _ => none
theorem Hp.iterAt_get {h : Hp} {b : Nat} {m : Option Nat} {since st : Nat} {seen : List Nat} (e : h.iterAt b = some (m, since, seen, st)) : h.get b = some (.iter m since seen st) := by
  unfold Hp.iterAt at e
  split at e <;> simp_all

theorem EnsR.filter {μ : Mu} (p : MapEntry → Bool) (hp : ∀ e e' : MapEntry, e'.born = e.born → p e' = p e) : ∀ {es es' : List MapEntry}, EnsR μ es es' → EnsR μ (es.filter p) (es'.filter p)
  | [], [], h => h
  | [], _ :: _, h => by simp [EnsR] at h
  | _ :: _, [], h => by simp [EnsR] at h
  | e :: es, e' :: es', h => by
    obtain ⟨h1, h2⟩ := h.uncons
    have ih := EnsR.filter p hp h2
    simp only [List.filter_cons, hp e e' h1.2.2]
    split
    · refine ⟨by simp [ih.1], fun i x y hx hy => ?_⟩
      cases i with
      | zero => simp at hx hy; subst hx; subst hy; exact h1
      | succ i => exact ih.2 i x y (by simpa using hx) (by simpa using hy)
    · exact ih

theorem EnsR.app {μ : Mu} {a a' b b' : List MapEntry} (h : EnsR μ a a') (r : EnsR μ b b') : EnsR μ (a ++ b) (a' ++ b') := by
  refine ⟨by simp [h.1, r.1], fun i x y hx hy => ?_⟩
  by_cases hi : i < a.length
  · rw [List.getElem?_append_left hi] at hx
    rw [List.getElem?_append_left (h.1 ▸ hi)] at hy
    exact h.2 i x y hx hy
  · rw [List.getElem?_append_right (Nat.le_of_not_lt hi)] at hx
    rw [List.getElem?_append_right (by rw [← h.1]; exact Nat.le_of_not_lt hi), ← h.1] at hy
    exact r.2 _ x y hx hy

theorem EnsR.all {μ : Mu} (p : MapEntry → Bool) (hp : ∀ e e' : MapEntry, e'.born = e.born → p e' = p e) : ∀ {es es' : List MapEntry}, EnsR μ es es' → es'.all p = es.all p
  | [], [], _ => rfl
  | [], _ :: _, h => by simp [EnsR] at h
  | _ :: _, [], h => by simp [EnsR] at h
  | e :: es, e' :: es', h => by
    obtain ⟨h1, h2⟩ := h.uncons
    simp only [List.all_cons, hp e e' h1.2.2, EnsR.all p hp h2]

theorem EnsR.isEmpty {μ : Mu} {es es' : List MapEntry} (h : EnsR μ es es') : es'.isEmpty = es.isEmpty := by
  cases es <;> cases es' <;> simp_all [EnsR]

def olds (es : List MapEntry) (since : Nat) (seen : List Nat) : List MapEntry := (es.filter fun e => !seen.contains e.born).filter fun e => decide (e.born < since)
def news (es : List MapEntry) (since : Nat) (seen : List Nat) : List MapEntry := (es.filter fun e => !seen.contains e.born).filter fun e => decide (e.born ≥ since)

/-- The ways on: to an entry, or to the end. -/
def cands (es : List MapEntry) (since : Nat) (seen : List Nat) : List (Option MapEntry) :=
  (match (olds es since seen).isEmpty with | true => [none] | false => []) ++ (olds es since seen ++ news es since seen).map some

def aNext (h : Hp) (it : Value) : Option (List (Value × Hp)) :=
  match it with
  | .pointer (some ⟨r, 0, none⟩) => match h.iterAt r with
    | some (none, _, _, _) => some [(.tuple #[.bool false], h)]
    | some (some m, since, seen, last) => match h.mapAt m with
      | some (es, clock) =>
        match !seen.isEmpty && !es.isEmpty && es.all (fun e => decide (e.born ≥ last)) with
        | true => none
        | false => some ((cands es since seen).map fun
            | some e => (.tuple #[.bool true, e.key, e.val], h.put r (.iter (some m) since (seen ++ [e.born]) clock))
            | none => (.tuple #[.bool false], h))
      | none => none
    | none => none
  | _ => none

theorem VR.triple {μ : Mu} {a a' b b' c c' : Value} (h : VR μ a a') (k : VR μ b b') (l : VR μ c c') : VR μ (.tuple #[a, b, c]) (.tuple #[a', b', c']) :=
  .tuple rfl fun i x y hx hy => by
    match i with
    | 0 => simp at hx hy; subst hx; subst hy; exact h
    | 1 => simp at hx hy; subst hx; subst hy; exact k
    | 2 => simp at hx hy; subst hx; subst hy; exact l
    | n + 3 => simp at hx

theorem VR.single {μ : Mu} {a a' : Value} (h : VR μ a a') : VR μ (.tuple #[a]) (.tuple #[a']) :=
  .tuple rfl fun i x y hx hy => by
    match i with
    | 0 => simp at hx hy; subst hx; subst hy; exact h
    | n + 1 => simp at hx

theorem aNext_ok {μ : Mu} {h : Hp} {w : World} (r : WR P μ h w) {it it' : Value} {ty : TypeId} {L : List (Value × Hp)} (hi : VR μ it it') (e : aNext h it = some L) :
    ∃ v h', (v, h') ∈ L ∧ ∃ v' w', (Instr.next it' false ty).run P w = .ok v' w' ∧ VR μ v v' ∧ WR P μ h' w' ∧ Fr μ h w μ h' w' := by
  unfold aNext at e
  split at e
  · rename_i b
    obtain ⟨x, hx1, _, rfl⟩ := hi.ptr_inv
    split at e
    · rename_i since seen last hit
      cases e
      obtain ⟨l, o', a1, a2, a3⟩ := r.live b _ (Hp.iterAt_get hit) rfl
      rw [hx1] at a1; cases a1
      cases a3 with
      | iter0 hs =>
        have hgo : (getObj x.blk).run P w = .ok (.mapIter none since seen.toArray last) w := run_getObj a2 (fun _ _ _ h => by cases h)
        refine ⟨_, _, List.mem_singleton.2 rfl, .tuple #[.bool false], w, ?_, VR.single (.bool false), r, Fr.refl _ _ _⟩
        unfold Instr.next
        simp only [hs, Nat.zero_add, Sem.run_bind, hgo, Result.andThen_ok]
        rfl
    · rename_i m since seen last hit
      split at e
      · rename_i es clock hmap
        split at e
        · cases e
        · rename_i hcond
          cases e
          obtain ⟨l, o', a1, a2, a3⟩ := r.live b _ (Hp.iterAt_get hit) rfl
          rw [hx1] at a1; cases a1
          cases a3 with
          | iter hs hm hms =>
            rename_i mx
            obtain ⟨hs', es', c2, he⟩ := r.mapAt hmap hm
            have hgo : (getObj x.blk).run P w = .ok (.mapIter (some mx.blk) since seen.toArray last) w := run_getObj a2 (fun _ _ _ h => by cases h)
            have hgm : (getObj mx.blk).run P w = .ok (.map es' clock) w := run_getObj c2 (fun _ _ _ h => by cases h)
            have hO : EnsR μ (olds es since seen) (olds es'.toList since seen) :=
              EnsR.filter _ (fun e e' hb => by simp [hb]) (EnsR.filter _ (fun e e' hb => by simp [hb]) he)
            have hN : EnsR μ (news es since seen) (news es'.toList since seen) :=
              EnsR.filter _ (fun e e' hb => by simp [hb]) (EnsR.filter _ (fun e e' hb => by simp [hb]) he)
            -- the world's candidates
            let cd : Array (Option MapEntry) := (cands es'.toList since seen).toArray
            have hcd : (if (es'.filter fun e => !seen.toArray.contains e.born).filter (fun e => decide (e.born < since)) |>.isEmpty then #[none] else #[]) ++
                (((es'.filter fun e => !seen.toArray.contains e.born).filter (fun e => decide (e.born < since))) ++ ((es'.filter fun e => !seen.toArray.contains e.born).filter (fun e => decide (e.born ≥ since)))).map some = cd := by
              apply Array.toList_inj.1
              simp only [cd, cands, olds, news, Array.toList_append, Array.toList_map, Array.toList_filter, List.contains_toArray]
              congr 1
              have hz : ((es'.filter fun e => !seen.contains e.born).filter (fun e => decide (e.born < since))).isEmpty = ((es'.toList.filter fun e => !seen.contains e.born).filter fun e => decide (e.born < since)).isEmpty := by
                rw [← Array.isEmpty_toList]; simp
              rw [hz]
              cases hb : ((es'.toList.filter fun e => !seen.contains e.born).filter fun e => decide (e.born < since)).isEmpty <;> simp
            have hlen : cd.size = (cands es since seen).length := by
              simp only [cd, cands, List.size_toArray, List.length_append, List.length_map, hO.1, hN.1, hO.isEmpty]
            have hpos : 0 < cd.size := by
              rw [hlen]
              unfold cands
              cases h0 : (olds es since seen).isEmpty with
              | true => simp
              | false =>
                cases h1 : olds es since seen with
                | nil => rw [h1] at h0; cases h0
                | cons _ _ => simp
            have hrel : ∀ (j : Nat) c c', (cands es since seen)[j]? = some c → cd[j]? = some c' → (c = none ∧ c' = none) ∨ ∃ e e', c = some e ∧ c' = some e' ∧ EnR μ e e' := by
              intro j c c' hc hc'
              simp only [cd, cands, List.getElem?_toArray] at hc hc'
              rw [hO.isEmpty] at hc'
              have hA := hO.app hN
              have hpre : ∀ q ∈ (match (olds es since seen).isEmpty with | true => [none] | false => ([] : List (Option MapEntry))), q = none := by
                intro q hq; split at hq <;> simp at hq; exact hq
              generalize (match (olds es since seen).isEmpty with | true => [none] | false => ([] : List (Option MapEntry))) = pre at hc hc' hpre
              by_cases hj : j < pre.length
              · rw [List.getElem?_append_left hj] at hc hc'
                rw [hc] at hc'
                cases hc'
                have := hpre c (List.mem_of_getElem? hc)
                exact .inl ⟨this, this⟩
              · rw [List.getElem?_append_right (Nat.le_of_not_lt hj), List.getElem?_map] at hc hc'
                cases h1 : (olds es since seen ++ news es since seen)[j - pre.length]? with
                | none => rw [h1] at hc; cases hc
                | some e =>
                  cases h2 : (olds es'.toList since seen ++ news es'.toList since seen)[j - pre.length]? with
                  | none => rw [h2] at hc'; cases hc'
                  | some e' =>
                    rw [h1] at hc; rw [h2] at hc'
                    simp at hc hc'
                    exact .inr ⟨e, e', hc.symm, hc'.symm, hA.2 _ _ _ h1 h2⟩
            have hcond' : (!seen.toArray.isEmpty && !es'.isEmpty && es'.all (fun e => decide (e.born ≥ last))) = false := by
              have h1 : es'.isEmpty = es.isEmpty := by rw [← Array.isEmpty_toList, he.isEmpty]
              have h2 : es'.all (fun e => decide (e.born ≥ last)) = es.all (fun e => decide (e.born ≥ last)) := by
                rw [← Array.all_toList]; exact he.all _ (fun e e' hb => by simp [hb])
              rw [h1, h2]
              simpa using hcond
            -- the draw
            have hdraw : ∃ i w1, i < cd.size ∧ (w1.heap = w.heap ∧ w1.os = w.os ∧ w1.output = w.output) ∧ (choose (.mapNext cd.size)).run P w = .ok i w1 := by
              by_cases h1 : cd.size ≤ 1
              · exact ⟨0, w, hpos, ⟨rfl, rfl, rfl⟩, by simp [Question.forced, h1]⟩
              · refine ⟨w.tape w.drawn (.mapNext cd.size) % cd.size, { w with drawn := w.drawn + 1 }, Nat.mod_lt _ hpos, ⟨rfl, rfl, rfl⟩, ?_⟩
                simp only [run_choose, Question.forced, h1, decide_false, Bool.false_eq_true, if_false, Question.cut]
            obtain ⟨i, w1, hi1, ⟨hw1, hw1o, hw1p⟩, hch⟩ := hdraw
            have hcs : cd[i]? = some cd[i] := Array.getElem?_eq_getElem hi1
            have hca : (cands es since seen)[i]? = some ((cands es since seen)[i]'(by omega)) := List.getElem?_eq_getElem _
            have r1 := r.heap hw1
            have hrun : (Instr.next (.pointer (some ⟨x.blk, x.sh + 0, none⟩)) false ty).run P w = (match cd[i]? with
                | some (some e) => do setObj x.blk (.mapIter (some mx.blk) since (seen.toArray.push e.born) clock); pure (.tuple #[.bool true, e.key, e.val])
                | some none => pure (.tuple #[.bool false])
                | none => stuck "Next: no such candidate" : Sem Value).run P w1 := by
              unfold Instr.next
              simp only [hs, Nat.add_zero, Sem.run_bind, hgo, Result.andThen_ok, hgm]
              simp only [hcond', hcd]
              simp only [Bool.false_eq_true, if_false, Sem.run_bind, Result.andThen_ok, hch]
              generalize cd[i]? = q
              cases q with
              | none => rfl
              | some c => cases c <;> rfl
            rcases hrel i _ _ hca hcs with ⟨p1, p2⟩ | ⟨en, en', p1, p2, p3⟩
            · refine ⟨_, _, List.mem_map.2 ⟨_, List.mem_of_getElem? hca, rfl⟩, ?_⟩
              rw [p1]
              refine ⟨.tuple #[.bool false], w1, ?_, VR.single (.bool false), r1, Fr.heap hw1 hw1o hw1p⟩
              rw [hrun, hcs, p2]; rfl
            · refine ⟨_, _, List.mem_map.2 ⟨_, List.mem_of_getElem? hca, rfl⟩, ?_⟩
              rw [p1]
              have hlive : h.live b := ⟨_, Hp.iterAt_get hit, rfl⟩
              obtain ⟨k1, k2⟩ := r1.put hlive hx1 (o := .iter (some m) since (seen ++ [en.born]) clock) (o' := .mapIter (some mx.blk) since (seen ++ [en.born]).toArray clock) (.iter hs hm hms) (r1.sameRow (Hp.iterAt_get hit) rfl hx1 fun _ _ e => by cases e)
              refine ⟨.tuple #[.bool true, en'.key, en'.val], _, ?_, VR.triple (.bool true) p3.1 p3.2.1, k1, (Fr.heap hw1 hw1o hw1p).trans k2⟩
              rw [hrun, hcs, p2]
              have hset : (setObj x.blk (.mapIter (some mx.blk) since (seen ++ [en.born]).toArray clock)).run P w1 = .ok () { w1 with heap := w1.heap.setIfInBounds x.blk (.mapIter (some mx.blk) since (seen ++ [en.born]).toArray clock) } :=
                run_setObj _ (by rw [hw1]; exact a2) (fun _ _ _ h => by cases h)
              simp only [Sem.run_bind, p3.2.2, List.push_toArray, hset, Result.andThen_ok, Sem.run_pure]
      · cases e
    · cases e
  · cases e

def aEntry (h : Hp) (it : Value) : Option Value :=
  match it with
  | .pointer (some ⟨r, 0, none⟩) => match h.iterAt r with
    | some (some m, _, seen, stepped) => match seen.getLast?, h.mapAt m with
      | some stamp, some (es, clock) => match Nat.beq clock stepped, es.find? (fun e => e.born == stamp) with
        | true, some e => some (.tuple #[e.key, e.val])
        | _, _ => none
      | _, _ => none
    | _ => none
  | _ => none

theorem EnsR.find {μ : Mu} (n : Nat) : ∀ {es es' : List MapEntry} {e : MapEntry}, EnsR μ es es' → es.find? (fun e => e.born == n) = some e → ∃ e', es'.find? (fun e => e.born == n) = some e' ∧ EnR μ e e'
  | [], _, _, _, h => by simp at h
  | _ :: _, [], _, h, _ => by simp [EnsR] at h
  | x :: es, x' :: es', e, h, hf => by
    obtain ⟨h1, h2⟩ := h.uncons
    rw [List.find?_cons] at hf ⊢
    rw [h1.2.2]
    split at hf
    · cases hf; exact ⟨x', rfl, h1⟩
    · exact EnsR.find n h2 hf

theorem aEntry_ok {μ : Mu} {h : Hp} {w : World} (r : WR P μ h w) {it it' v : Value} (hi : VR μ it it') (e : aEntry h it = some v) :
    ∃ v', (Instr.entry it').run P w = .ok v' w ∧ VR μ v v' := by
  unfold aEntry at e
  split at e
  · rename_i b
    obtain ⟨x, hx1, _, rfl⟩ := hi.ptr_inv
    split at e
    · rename_i m since seen stepped hit
      split at e
      · rename_i stamp es clock hst hmap
        split at e
        · rename_i en hcl hfd
          cases e
          obtain ⟨l, o', a1, a2, a3⟩ := r.live b _ (Hp.iterAt_get hit) rfl
          rw [hx1] at a1; cases a1
          cases a3 with
          | iter hs hm hms =>
            rename_i mx
            obtain ⟨hs', es', c2, he⟩ := r.mapAt hmap hm
            have hgo : (getObj x.blk).run P w = .ok (.mapIter (some mx.blk) since seen.toArray stepped) w := run_getObj a2 (fun _ _ _ h => by cases h)
            have hgm : (getObj mx.blk).run P w = .ok (.map es' clock) w := run_getObj c2 (fun _ _ _ h => by cases h)
            obtain ⟨en', f1, f2⟩ := he.find stamp hfd
            have f1' : es'.find? (fun e => e.born == stamp) = some en' := by
              rw [← f1]; cases es'; simp
            have hcl' : clock = stepped := Nat.eq_of_beq_eq_true hcl
            refine ⟨.tuple #[en'.key, en'.val], ?_, f2.1.pair f2.2.1⟩
            unfold Instr.entry
            simp [hs, hgo, hst, hgm, hcl', f1']
        · cases e
      · cases e
    · cases e
  · cases e

end
end Go.Ev
