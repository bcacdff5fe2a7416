/-
  The evaluator's ground: a small tree keyed by numbers; the abstract heap; the relation between abstract values and a world's values. · The evaluator's abstract heap, its relation to a world, and what the primitive steps (a new block, a changed block, a block given up) do to that relation. · The evaluator's operations on memory: what each gives on the abstract heap, and that the model's own operation gives the same in every world that the heap describes. · The evaluator's operations that make memory, and those on addresses, slices and function values.
-/
import Derived.AtR
import Derived.Laws.CopyRow
import Derived.Laws.Cells
import Derived.Laws.Entries
import Derived.RangeFuncIn
import Derived.Defers
/-! The evaluator's ground: a small tree keyed by numbers; the abstract heap; the relation between abstract values and a world's values. -/
namespace Go.Ev
open Go

inductive T (α : Type) where
  | e
  | n (l r : T α)
  | v (a : α)

def T.getOne {α : Type} (ih : T α → Nat → Option α) (t : T α) (m : Nat) : Option α :=
  match t with
  | .n l r => match Nat.beq (m % 2) 1 with
    | true => ih l (m / 2)
    | false => ih r (m / 2)
  | _ => none

def T.get {α : Type} (k : Nat) : T α → Nat → Option α :=
  Nat.rec (motive := fun _ => T α → Nat → Option α) (fun t _ => match t with | .v a => some a | _ => none) (fun _ ih t m => T.getOne ih t m) k

def T.setOne {α : Type} (ih : T α → Nat → α → T α) (t : T α) (m : Nat) (a : α) : T α :=
  match t with
  | .n l r => match Nat.beq (m % 2) 1 with
    | true => .n (ih l (m / 2) a) r
    | false => .n l (ih r (m / 2) a)
  | _ => match Nat.beq (m % 2) 1 with
    | true => .n (ih .e (m / 2) a) .e
    | false => .n .e (ih .e (m / 2) a)

def T.set {α : Type} (k : Nat) : T α → Nat → α → T α :=
  Nat.rec (motive := fun _ => T α → Nat → α → T α) (fun _ _ a => .v a) (fun _ ih t m a => T.setOne ih t m a) k

theorem T.get_succ {α : Type} (k : Nat) (t : T α) (m : Nat) : T.get (k + 1) t m = T.getOne (T.get k) t m := rfl
theorem T.set_succ {α : Type} (k : Nat) (t : T α) (m : Nat) (a : α) : T.set (k + 1) t m a = T.setOne (T.set k) t m a := rfl

theorem T.get_e {α : Type} (k m : Nat) : T.get k (.e : T α) m = none := by cases k <;> rfl

theorem T.get_set {α : Type} (k : Nat) : ∀ (t : T α) (n m : Nat) (a : α), n < 2 ^ k → m < 2 ^ k → T.get k (T.set k t n a) m = if n = m then some a else T.get k t m := by
  induction k with
  | zero =>
    intro t n m a hn hm
    have h1 : n = 0 := by simpa using hn
    have h2 : m = 0 := by simpa using hm
    subst h1; subst h2; rfl
  | succ k ih =>
    intro t n m a hn hm
    rw [T.set_succ, T.get_succ, T.get_succ]
    have hn2 : n / 2 < 2 ^ k := by rw [Nat.pow_succ] at hn; omega
    have hm2 : m / 2 < 2 ^ k := by rw [Nat.pow_succ] at hm; omega
    cases t with
    | n l r =>
      simp only [T.setOne]
      cases hb : Nat.beq (n % 2) 1 <;> simp only [T.getOne] <;> cases hc : Nat.beq (m % 2) 1 <;> simp only
      · rw [ih _ _ _ _ hn2 hm2]
        have h1 : ¬ n % 2 = 1 := by intro h; rw [h] at hb; cases hb
        have h2 : ¬ m % 2 = 1 := by intro h; rw [h] at hc; cases hc
        by_cases e : n = m
        · subst e; simp
        · rw [if_neg e, if_neg (by omega)]
      · have h1 : ¬ n % 2 = 1 := by intro h; rw [h] at hb; cases hb
        have h2 : m % 2 = 1 := Nat.eq_of_beq_eq_true hc
        rw [if_neg (by intro e; subst e; exact h1 h2)]
      · have h1 : n % 2 = 1 := Nat.eq_of_beq_eq_true hb
        have h2 : ¬ m % 2 = 1 := by intro h; rw [h] at hc; cases hc
        rw [if_neg (by intro e; subst e; exact h2 h1)]
      · rw [ih _ _ _ _ hn2 hm2]
        have h1 : n % 2 = 1 := Nat.eq_of_beq_eq_true hb
        have h2 : m % 2 = 1 := Nat.eq_of_beq_eq_true hc
        by_cases e : n = m
        · subst e; simp
        · rw [if_neg e, if_neg (by omega)]
    | e | v x =>
      simp only [T.setOne]
      cases hb : Nat.beq (n % 2) 1 <;> simp only [T.getOne] <;> cases hc : Nat.beq (m % 2) 1 <;> simp only [T.get_e]
      · rw [ih _ _ _ _ hn2 hm2, T.get_e]
        have h1 : ¬ n % 2 = 1 := by intro h; rw [h] at hb; cases hb
        have h2 : ¬ m % 2 = 1 := by intro h; rw [h] at hc; cases hc
        by_cases e : n = m
        · subst e; simp
        · rw [if_neg e, if_neg (by omega)]
      · have h1 : ¬ n % 2 = 1 := by intro h; rw [h] at hb; cases hb
        have h2 : m % 2 = 1 := Nat.eq_of_beq_eq_true hc
        rw [if_neg (by intro e; subst e; exact h1 h2)]
      · have h1 : n % 2 = 1 := Nat.eq_of_beq_eq_true hb
        have h2 : ¬ m % 2 = 1 := by intro h; rw [h] at hc; cases hc
        rw [if_neg (by intro e; subst e; exact h2 h1)]
      · rw [ih _ _ _ _ hn2 hm2, T.get_e]
        have h1 : n % 2 = 1 := Nat.eq_of_beq_eq_true hb
        have h2 : m % 2 = 1 := Nat.eq_of_beq_eq_true hc
        by_cases e : n = m
        · subst e; simp
        · rw [if_neg e, if_neg (by omega)]

/-- Where an abstract block lies in the world: its block, by how many cells it is shifted there, how many elements more lie behind it. -/
structure Spot where
  blk : Nat
  sh : Nat
  ex : Nat

abbrev Mu := Nat → Option Spot
def Mu.le (μ μ' : Mu) : Prop := ∀ b l, μ b = some l → μ' b = some l
theorem Mu.le_refl (μ : Mu) : μ.le μ := fun _ _ h => h
theorem Mu.le_trans {a b c : Mu} (h : a.le b) (k : b.le c) : a.le c := fun x l e => k x l (h x l e)

/-- An abstract capacity from BIG on says: 'at least so much, up to the block's end'. -/
def BIG : Nat := 1180591620717411303424
def CapR (ex c c' : Nat) : Prop := (c < BIG ∧ c' = c) ∨ (BIG ≤ c ∧ c' = c - BIG + ex)

inductive FnR (μ : Mu) : Fn → Fn → Prop where
  | func (f) : FnR μ (.func f) (.func f)
  | method (n) : FnR μ (.method n) (.method n)
  | methodOf (t n) : FnR μ (.methodOf t n) (.methodOf t n)
  | via (t p f q) : FnR μ (.via t p f q) (.via t p f q)
  | yield {l x} : μ l = some x → x.sh = 0 → FnR μ (.yield l) (.yield x.blk)

inductive VR (μ : Mu) : Value → Value → Prop where
  | bool (b) : VR μ (.bool b) (.bool b)
  | int (k n) : VR μ (.int k n) (.int k n)
  | string (s) : VR μ (.string s) (.string s)
  | ptr0 : VR μ (.pointer none) (.pointer none)
  | ptr {b o x} : μ b = some x → VR μ (.pointer (some ⟨b, o, none⟩)) (.pointer (some ⟨x.blk, x.sh + o, none⟩))
  | sl0 (n c) : VR μ (.slice none n c) (.slice none n c)
  | sl {b o n c c' x} : μ b = some x → CapR x.ex c c' → VR μ (.slice (some ⟨b, o, none⟩) n c) (.slice (some ⟨x.blk, x.sh + o, none⟩) n c')
  | map0 : VR μ (.map none) (.map none)
  | map {b x} : μ b = some x → x.sh = 0 → VR μ (.map (some b)) (.map (some x.blk))
  | func {f f' a a' c c'} : FnR μ f f' → a.size = a'.size → (∀ (i : Nat) x y, a[i]? = some x → a'[i]? = some y → VR μ x y) → c.size = c'.size → (∀ (i : Nat) x y, c[i]? = some x → c'[i]? = some y → VR μ x y) → VR μ (.func f a c) (.func f' a' c')
  | nilFunc : VR μ .nilFunc .nilFunc
  | iface {t v v'} : VR μ v v' → VR μ (.iface t v) (.iface t v')
  | nilIface : VR μ .nilIface .nilIface
  | agg {a a'} : a.size = a'.size → (∀ (i : Nat) x y, a[i]? = some x → a'[i]? = some y → VR μ x y) → VR μ (.agg a) (.agg a')
  | tuple {a a'} : a.size = a'.size → (∀ (i : Nat) x y, a[i]? = some x → a'[i]? = some y → VR μ x y) → VR μ (.tuple a) (.tuple a')

def AllR (μ : Mu) (a a' : Array Value) : Prop := a.size = a'.size ∧ ∀ (i : Nat) x y, a[i]? = some x → a'[i]? = some y → VR μ x y

theorem FnR.mono {μ μ' : Mu} (h : μ.le μ') {f f' : Fn} (r : FnR μ f f') : FnR μ' f f' := by
  cases r with
  | yield a b => exact .yield (h _ _ a) b
  | _ => constructor

theorem VR.mono {μ μ' : Mu} (h : μ.le μ') {v v' : Value} (r : VR μ v v') : VR μ' v v' := by
  induction r with
  | bool | int | string | ptr0 | sl0 | map0 | nilFunc | nilIface => constructor
  | ptr a => exact .ptr (h _ _ a)
  | sl a b => exact .sl (h _ _ a) b
  | map a b => exact .map (h _ _ a) b
  | func a b _ d _ ih1 ih2 => exact .func (a.mono h) b ih1 d ih2
  | iface _ ih => exact .iface ih
  | agg a _ ih => exact .agg a ih
  | tuple a _ ih => exact .tuple a ih

theorem AllR.mono {μ μ' : Mu} (h : μ.le μ') {a a' : Array Value} (r : AllR μ a a') : AllR μ' a a' := ⟨r.1, fun i x y hx hy => (r.2 i x y hx hy).mono h⟩

theorem AllR.have {μ : Mu} {a a' : Array Value} (r : AllR μ a a') {i : Nat} {x : Value} (h : a[i]? = some x) : ∃ y, a'[i]? = some y ∧ VR μ x y := by
  have hi := (Array.getElem?_eq_some_iff.1 h).1
  have hy : a'[i]? = some (a'[i]'(r.1 ▸ hi)) := Array.getElem?_eq_getElem _
  exact ⟨_, hy, r.2 i _ _ h hy⟩

/-- The same of lists. -/
def LR (μ : Mu) (a a' : List Value) : Prop := a.length = a'.length ∧ ∀ (i : Nat) x y, a[i]? = some x → a'[i]? = some y → VR μ x y

theorem AllR.toList {μ : Mu} {a a' : Array Value} (r : AllR μ a a') : LR μ a.toList a'.toList := ⟨by simpa using r.1, fun i x y hx hy => r.2 i x y (by simpa using hx) (by simpa using hy)⟩
theorem LR.toArray {μ : Mu} {a a' : List Value} (r : LR μ a a') : AllR μ a.toArray a'.toArray := ⟨by simpa using r.1, fun i x y hx hy => r.2 i x y (by simpa using hx) (by simpa using hy)⟩
theorem LR.mono {μ μ' : Mu} (h : μ.le μ') {a a' : List Value} (r : LR μ a a') : LR μ' a a' := ⟨r.1, fun i x y hx hy => (r.2 i x y hx hy).mono h⟩
theorem LR.nil (μ : Mu) : LR μ [] [] := ⟨rfl, fun i x y hx _ => by simp at hx⟩
theorem LR.cons {μ : Mu} {x y : Value} {a a' : List Value} (h : VR μ x y) (r : LR μ a a') : LR μ (x :: a) (y :: a') :=
  ⟨by simp [r.1], fun i u v hu hv => by
    cases i with
    | zero => simp at hu hv; subst hu; subst hv; exact h
    | succ i => exact r.2 i u v (by simpa using hu) (by simpa using hv)⟩
theorem LR.uncons {μ : Mu} {x y : Value} {a a' : List Value} (r : LR μ (x :: a) (y :: a')) : VR μ x y ∧ LR μ a a' :=
  ⟨r.2 0 x y (by simp) (by simp), ⟨by simpa using r.1, fun i u v hu hv => r.2 (i + 1) u v (by simpa using hu) (by simpa using hv)⟩⟩
theorem LR.app {μ : Mu} {a a' b b' : List Value} (h : LR μ a a') (r : LR μ b b') : LR μ (a ++ b) (a' ++ b') := by
  refine ⟨by simp [h.1, r.1], fun i x y hx hy => ?_⟩
  by_cases hi : i < a.length
  · rw [List.getElem?_append_left hi] at hx
    rw [List.getElem?_append_left (h.1 ▸ hi)] at hy
    exact h.2 i x y hx hy
  · rw [List.getElem?_append_right (Nat.le_of_not_lt hi)] at hx
    rw [List.getElem?_append_right (by rw [← h.1]; exact Nat.le_of_not_lt hi), ← h.1] at hy
    exact r.2 _ x y hx hy

/-! ### Equality and groundness of values, as programs -/
def leq (f : Value → Value → Bool) : List Value → List Value → Bool
  | [], [] => true
  | a :: x, b :: y => f a b && leq f x y
  | _, _ => false

def veq : Nat → Value → Value → Bool
  | 0, _, _ => false
  | _ + 1, .bool a, .bool b => a == b
  | _ + 1, .int k a, .int k' b => decide (k = k') && decide (a = b)
  | _ + 1, .string a, .string b => decide (a = b)
  | _ + 1, .pointer a, .pointer b => decide (a = b)
  | _ + 1, .slice a n c, .slice b n' c' => decide (a = b) && Nat.beq n n' && Nat.beq c c'
  | _ + 1, .map a, .map b => decide (a = b)
  | n + 1, .func f a c, .func f' a' c' => decide (f = f') && leq (veq n) a.toList a'.toList && leq (veq n) c.toList c'.toList
  | _ + 1, .nilFunc, .nilFunc => true
  | n + 1, .iface t v, .iface t' v' => Nat.beq t t' && veq n v v'
  | _ + 1, .nilIface, .nilIface => true
  | n + 1, .agg a, .agg b => leq (veq n) a.toList b.toList
  | n + 1, .tuple a, .tuple b => leq (veq n) a.toList b.toList
  | _ + 1, _, _ => false

theorem leq_eq {f : Value → Value → Bool} (hf : ∀ a b, f a b = true → a = b) : ∀ a b, leq f a b = true → a = b
  | [], [], _ => rfl
  | a :: x, b :: y, h => by
    simp only [leq, Bool.and_eq_true] at h
    rw [hf _ _ h.1, leq_eq hf _ _ h.2]
  | [], _ :: _, h => by simp [leq] at h
  | _ :: _, [], h => by simp [leq] at h

theorem veq_eq : ∀ n a b, veq n a b = true → a = b := by
  intro n
  induction n with
  | zero => intro a b h; simp [veq] at h
  | succ n ih =>
    intro a b h
    cases a <;> cases b <;> simp only [veq, Bool.and_eq_true, decide_eq_true_eq, beq_iff_eq, Nat.beq_eq, Bool.false_eq_true] at h <;>
      first
        | (exact h.elim)
        | rfl
        | (subst h; rfl)
        | (obtain ⟨h1, h2⟩ := h; subst h1; subst h2; rfl)
        | (obtain ⟨⟨h1, h2⟩, h3⟩ := h; subst h1; subst h2; subst h3; rfl)
        | (have e := leq_eq ih _ _ h; rw [Array.toList_inj] at e; rw [e])
        | (obtain ⟨h1, h2⟩ := h; rw [ih _ _ h2, h1])
        | (obtain ⟨⟨h1, h2⟩, h3⟩ := h; have e := leq_eq ih _ _ h2; have e' := leq_eq ih _ _ h3; rw [Array.toList_inj] at e e'; rw [h1, e, e'])

/-- No block's number in a value. -/
def gr : Nat → Value → Bool
  | 0, _ => false
  | _ + 1, .bool _ => true
  | _ + 1, .int _ _ => true
  | _ + 1, .string _ => true
  | _ + 1, .pointer none => true
  | _ + 1, .slice none _ _ => true
  | _ + 1, .map none => true
  | _ + 1, .nilFunc => true
  | n + 1, .iface _ v => gr n v
  | _ + 1, .nilIface => true
  | n + 1, .agg a => a.toList.all (gr n)
  | n + 1, .tuple a => a.toList.all (gr n)
  | _ + 1, _ => false

theorem gr_eq {μ : Mu} : ∀ n v v', gr n v = true → VR μ v v' → v' = v := by
  intro n
  induction n with
  | zero => intro v v' h; simp [gr] at h
  | succ n ih =>
    intro v v' h r
    have arr : ∀ (a a' : Array Value), a.toList.all (gr n) = true → a.size = a'.size → (∀ (i : Nat) x y, a[i]? = some x → a'[i]? = some y → VR μ x y) → a' = a := by
      intro a a' hg hs hr
      apply Array.ext hs.symm
      intro i h1 h2
      have e1 : a[i]? = some a[i] := Array.getElem?_eq_getElem h2
      have e2 : a'[i]? = some a'[i] := Array.getElem?_eq_getElem h1
      exact ih _ _ (List.all_eq_true.1 hg _ (by simp)) (hr i _ _ e1 e2)
    cases r with
    | bool | int | string | ptr0 | sl0 | map0 | nilFunc | nilIface => rfl
    | ptr a => simp [gr] at h
    | sl a b => simp [gr] at h
    | map a b => simp [gr] at h
    | func => simp [gr] at h
    | iface r => rw [ih _ _ (by simpa [gr] using h) r]
    | agg s r => rw [arr _ _ (by simpa only [gr] using h) s r]
    | tuple s r => rw [arr _ _ (by simpa only [gr] using h) s r]

theorem gr_refl {μ : Mu} : ∀ n v, gr n v = true → VR μ v v := by
  intro n
  induction n with
  | zero => intro v h; simp [gr] at h
  | succ n ih =>
    intro v h
    have arr : ∀ (a : Array Value), a.toList.all (gr n) = true → ∀ (i : Nat) x y, a[i]? = some x → a[i]? = some y → VR μ x y := by
      intro a hg i x y hx hy
      rw [hx] at hy; cases hy
      exact ih _ (List.all_eq_true.1 hg _ (by obtain ⟨hi, rfl⟩ := Array.getElem?_eq_some_iff.1 hx; simp))
    cases v with
    | bool b => exact .bool b
    | int k m => exact .int k m
    | string s => exact .string s
    | pointer a => cases a with
      | none => exact .ptr0
      | some a => simp [gr] at h
    | slice a l c => cases a with
      | none => exact .sl0 l c
      | some a => simp [gr] at h
    | map r => cases r with
      | none => exact .map0
      | some r => simp [gr] at h
    | nilFunc => exact .nilFunc
    | nilIface => exact .nilIface
    | iface t v => exact .iface (ih _ (by simpa [gr] using h))
    | agg a => exact .agg rfl (arr a (by simpa only [gr] using h))
    | tuple a => exact .tuple rfl (arr a (by simpa only [gr] using h))
    | _ => simp [gr] at h

end Go.Ev

/-! The evaluator's abstract heap, its relation to a world, and what the primitive steps (a new block, a changed block, a block given up) do to that relation. -/
namespace Go.Ev
open Go

/-- The depth of the heap's tree, and of a frame's. -/
abbrev HD : Nat := 13
abbrev TD : Nat := 8

inductive AObj where
  | dead
  | cells (c : List Value) (t : TypeId)
  | map (es : List MapEntry) (clock : Nat)
  | iter (m : Option Nat) (since : Nat) (seen : List Nat) (stepped : Nat)
  | loop (st : LoopState) (pend : Option Code) (fn : FuncId) (tm : T Value) (ntm : Nat) (params : List Tmp) (assign body : Code) (defers : Nat)
  | defs (ds : Option (List Deferred))

def AObj.isDead : AObj → Bool
  | .dead => true
  | _ => false

structure Hp where
  t : T AObj
  nx : Nat
  lw : Nat   -- no block below this one has been written since the count was set

def Hp.get (h : Hp) (b : Nat) : Option AObj :=
  match Nat.blt b h.nx with
  | true => T.get HD h.t b
  | false => none

def Hp.put (h : Hp) (b : Nat) (o : AObj) : Hp := { t := T.set HD h.t b o, nx := h.nx, lw := match Nat.blt b h.lw with | true => b | false => h.lw }
def Hp.new (h : Hp) (o : AObj) : Hp := { t := T.set HD h.t h.nx o, nx := h.nx + 1, lw := h.lw }
def Hp.setLw (h : Hp) (n : Nat) : Hp := { t := h.t, nx := h.nx, lw := n }
theorem Hp.get_setLw (h : Hp) (n b : Nat) : (h.setLw n).get b = h.get b := rfl
theorem Hp.put_lw (h : Hp) (b : Nat) (o : AObj) : (h.put b o).lw ≤ h.lw ∧ (h.put b o).lw ≤ b := by
  unfold Hp.put
  cases q : Nat.blt b h.lw with
  | true => rw [Nat.blt_eq] at q; simp only; omega
  | false =>
    have : ¬ b < h.lw := fun hl => by rw [← Nat.blt_eq] at hl; rw [hl] at q; cases q
    simp only; omega
def Hp.room (h : Hp) : Bool := Nat.blt h.nx (2 ^ HD)

def Hp.live (h : Hp) (b : Nat) : Prop := ∃ o, h.get b = some o ∧ o.isDead = false

theorem Hp.get_lt {h : Hp} {b : Nat} {o : AObj} (e : h.get b = some o) : b < h.nx := by
  unfold Hp.get at e
  cases hb : Nat.blt b h.nx with
  | true => simpa [Nat.blt_eq] using hb
  | false => rw [hb] at e; cases e

theorem Hp.get_put {h : Hp} {b : Nat} {o : AObj} (hb : b < h.nx) (hc : h.nx ≤ 2 ^ HD) (c : Nat) : (h.put b o).get c = if b = c then some o else h.get c := by
  unfold Hp.get Hp.put
  by_cases hcx : c < h.nx
  · have e : Nat.blt c h.nx = true := by simpa [Nat.blt_eq] using hcx
    simp only [e]
    rw [T.get_set _ _ _ _ _ (by omega) (by omega)]
  · have e : Nat.blt c h.nx = false := by
      cases q : Nat.blt c h.nx with
      | false => rfl
      | true => exact absurd (by simpa [Nat.blt_eq] using q) hcx
    simp only [e]
    rw [if_neg (by omega)]

theorem Hp.get_new {h : Hp} {o : AObj} (hc : h.room = true) (c : Nat) : (h.new o).get c = if h.nx = c then some o else h.get c := by
  have hr : h.nx < 2 ^ HD := by simpa [Hp.room, Nat.blt_eq] using hc
  unfold Hp.get Hp.new
  by_cases hcx : c < h.nx
  · have e : Nat.blt c h.nx = true := by simpa [Nat.blt_eq] using hcx
    have e' : Nat.blt c (h.nx + 1) = true := by rw [Nat.blt_eq]; omega
    simp only [e, e']
    rw [T.get_set _ _ _ _ _ (by omega) (by omega)]
  · have e : Nat.blt c h.nx = false := by
      cases q : Nat.blt c h.nx with
      | false => rfl
      | true => exact absurd (by simpa [Nat.blt_eq] using q) hcx
    simp only [e]
    by_cases hx : h.nx = c
    · subst hx
      have e' : Nat.blt h.nx (h.nx + 1) = true := by rw [Nat.blt_eq]; omega
      simp only [e', if_true]
      rw [T.get_set _ _ _ _ _ (by omega) (by omega), if_pos rfl]
    · have e' : Nat.blt c (h.nx + 1) = false := by
        cases q : Nat.blt c (h.nx + 1) with
        | false => rfl
        | true => rw [Nat.blt_eq] at q; omega
      simp only [e', if_neg hx]

/-! ### The relation to a world -/
def TgR (μ : Mu) : Target → Target → Prop
  | .fn f c, .fn f' c' => FnR μ f f' ∧ AllR μ c c'
  | .nil, .nil => True
  | .builtin b a t c, .builtin b' a' t' c' => b = b' ∧ a = a' ∧ t = t' ∧ c = c'
  | .collected r, .collected r' => ∃ x, μ r = some x ∧ x.sh = 0 ∧ r' = x.blk
  | _, _ => False

def DfR (μ : Mu) (d d' : Deferred) : Prop := TgR μ d.target d'.target ∧ AllR μ d.args d'.args
def DfsR (μ : Mu) (a a' : List Deferred) : Prop := a.length = a'.length ∧ ∀ (i : Nat) x y, a[i]? = some x → a'[i]? = some y → DfR μ x y

/-- A frame's temporaries. -/
def TmR (μ : Mu) (tm : T Value) (ntm : Nat) (a : Array Value) : Prop := a.size = ntm ∧ ntm ≤ 2 ^ TD ∧ ∀ i v, i < 2 ^ TD → T.get TD tm i = some v → ∃ v', a[i]? = some v' ∧ VR μ v v'

def EnR (μ : Mu) (e e' : MapEntry) : Prop := VR μ e.key e'.key ∧ VR μ e.val e'.val ∧ e'.born = e.born
def EnsR (μ : Mu) (a : List MapEntry) (a' : List MapEntry) : Prop := a.length = a'.length ∧ ∀ (i : Nat) x y, a[i]? = some x → a'[i]? = some y → EnR μ x y

inductive OR (P : Program) (μ : Mu) (l : Spot) : AObj → Obj → Prop where
  | cells {c t c' i} : P.info? t = some i → l.sh + c.length + l.ex * i.size ≤ c'.size → (∀ (j : Nat) x, c[j]? = some x → ∃ y, c'[l.sh + j]? = some y ∧ VR μ x y) → OR P μ l (.cells c t) (.cells c' t (0, 0))
  | map {es es' k} : l.sh = 0 → EnsR μ es es'.toList → OR P μ l (.map es k) (.map es' k)
  | iter0 {since seen st} : l.sh = 0 → OR P μ l (.iter none since seen st) (.mapIter none since seen.toArray st)
  | iter {m x since seen st} : l.sh = 0 → μ m = some x → x.sh = 0 → OR P μ l (.iter (some m) since seen st) (.mapIter (some x.blk) since seen.toArray st)
  | loop {st pend fn tm ntm params assign body d x a} : l.sh = 0 → TmR μ tm ntm a → μ d = some x → x.sh = 0 →
      OR P μ l (.loop st pend fn tm ntm params assign body d) (.loop { state := st, pending := pend, fn := fn, tmps := a, params := params.toArray, assign := assign, body := body, defers := x.blk })
  | defs0 : l.sh = 0 → OR P μ l (.defs none) (.deferred none)
  | defs {ds ds'} : l.sh = 0 → DfsR μ ds ds' → OR P μ l (.defs (some ds)) (.deferred (some ds'))

theorem TgR.mono {μ μ' : Mu} (h : μ.le μ') {t t' : Target} (r : TgR μ t t') : TgR μ' t t' := by
  cases t <;> cases t' <;> simp only [TgR] at r ⊢ <;> first
    | exact r
    | exact ⟨r.1.mono h, r.2.mono h⟩
    | (obtain ⟨x, a, b, c⟩ := r; exact ⟨x, h _ _ a, b, c⟩)
theorem DfR.mono {μ μ' : Mu} (h : μ.le μ') {d d' : Deferred} (r : DfR μ d d') : DfR μ' d d' := ⟨r.1.mono h, r.2.mono h⟩
theorem DfsR.mono {μ μ' : Mu} (h : μ.le μ') {d d' : List Deferred} (r : DfsR μ d d') : DfsR μ' d d' := ⟨r.1, fun i x y hx hy => (r.2 i x y hx hy).mono h⟩
theorem TmR.mono {μ μ' : Mu} (h : μ.le μ') {tm : T Value} {n : Nat} {a : Array Value} (r : TmR μ tm n a) : TmR μ' tm n a :=
  ⟨r.1, r.2.1, fun i v hi e => by obtain ⟨v', a, b⟩ := r.2.2 i v hi e; exact ⟨v', a, b.mono h⟩⟩
theorem EnR.mono {μ μ' : Mu} (h : μ.le μ') {d d' : MapEntry} (r : EnR μ d d') : EnR μ' d d' := ⟨r.1.mono h, r.2.1.mono h, r.2.2⟩
theorem EnsR.mono {μ μ' : Mu} (h : μ.le μ') {d d' : List MapEntry} (r : EnsR μ d d') : EnsR μ' d d' := ⟨r.1, fun i x y hx hy => (r.2 i x y hx hy).mono h⟩
theorem OR.mono {P : Program} {μ μ' : Mu} (h : μ.le μ') {l : Spot} {o : AObj} {o' : Obj} (r : OR P μ l o o') : OR P μ' l o o' := by
  cases r with
  | cells a b c => exact .cells a b fun j x hx => by obtain ⟨y, p, q⟩ := c j x hx; exact ⟨y, p, q.mono h⟩
  | map a b => exact .map a (b.mono h)
  | iter0 a => exact .iter0 a
  | iter a b c => exact .iter a (h _ _ b) c
  | loop a b c d => exact .loop a (b.mono h) (h _ _ c) d
  | defs0 a => exact .defs0 a
  | defs a b => exact .defs a (b.mono h)

structure WR (P : Program) (μ : Mu) (h : Hp) (w : World) : Prop where
  live : ∀ b o, h.get b = some o → o.isDead = false → ∃ l o', μ b = some l ∧ w.heap[l.blk]? = some o' ∧ OR P μ l o o'
  inj : ∀ b1 b2 l1 l2, h.live b1 → h.live b2 → μ b1 = some l1 → μ b2 = some l2 → l1.blk = l2.blk → b1 = b2
  cap : h.nx ≤ 2 ^ HD

/-- What nobody turns: the system, the print, each row's size and type. -/
structure WK (w w' : World) : Prop where
  os : w'.os = w.os
  outp : w'.output = w.output
  row : ∀ (r : Nat) (c : Array Value) (t : TypeId) (f : Nat × Nat), w.heap[r]? = some (Obj.cells c t f) → ∃ c' : Array Value, w'.heap[r]? = some (Obj.cells c' t f) ∧ c'.size = c.size

theorem WK.refl (w : World) : WK w w := ⟨rfl, rfl, fun _ c _ _ h => ⟨c, h, rfl⟩⟩
theorem WK.trans {a b c : World} (x : WK a b) (y : WK b c) : WK a c :=
  ⟨y.os.trans x.os, y.outp.trans x.outp, fun r d t f h => by
    obtain ⟨d1, h1, s1⟩ := x.row r d t f h
    obtain ⟨d2, h2, s2⟩ := y.row r d1 t f h1
    exact ⟨d2, h2, s2.trans s1⟩⟩
theorem WK.heap {w w' : World} (e : w'.heap = w.heap) (o : w'.os = w.os) (p : w'.output = w.output) : WK w w' :=
  ⟨o, p, fun _ c _ _ h => ⟨c, by rw [e]; exact h, rfl⟩⟩
theorem WK.push (w : World) (o : Obj) : WK w { w with heap := w.heap.push o } :=
  ⟨rfl, rfl, fun r c t f h => ⟨c, by
    have hr := (Array.getElem?_eq_some_iff.1 h).1
    show (w.heap.push o)[r]? = _
    rw [Array.getElem?_push_lt hr]; rw [Array.getElem?_eq_getElem hr] at h; exact h, rfl⟩⟩
/-- What may lie where this object lay. -/
def SameRow (o o' : Obj) : Prop := ∀ (c : Array Value) (t : TypeId) (f : Nat × Nat), o = Obj.cells c t f → ∃ c' : Array Value, o' = Obj.cells c' t f ∧ c'.size = c.size
theorem SameRow.no {o o' : Obj} (h : ∀ (c : Array Value) (t : TypeId) (f : Nat × Nat), o ≠ Obj.cells c t f) : SameRow o o' := fun c t f e => (h c t f e).elim
theorem WK.set {w : World} {b : Nat} {o : Obj} (h : ∀ x, w.heap[b]? = some x → SameRow x o) : WK w { w with heap := w.heap.setIfInBounds b o } :=
  ⟨rfl, rfl, fun r c t f hr => by
    have hlt := (Array.getElem?_eq_some_iff.1 hr).1
    by_cases e : b = r
    · subst e
      obtain ⟨c', h1, h2⟩ := h _ hr c t f rfl
      exact ⟨c', by simp [hlt, h1], h2⟩
    · exact ⟨c, by show (w.heap.setIfInBounds b o)[r]? = _; rw [Array.getElem?_setIfInBounds_ne e]; exact hr, rfl⟩⟩

/-- What a step of the world leaves of it. -/
structure Fr (μ : Mu) (h : Hp) (w : World) (μ' : Mu) (h' : Hp) (w' : World) : Prop where
  le : μ.le μ'
  out : ∀ b, b < h.nx ∨ h'.nx ≤ b → μ' b = μ b
  nx : h.nx ≤ h'.nx
  sz : w.heap.size ≤ w'.heap.size
  keep : ∀ r, r < w.heap.size → (∀ b l, h.live b → μ b = some l → l.blk ≠ r) → w'.heap[r]? = w.heap[r]?
  img : ∀ b l, h'.live b → μ' b = some l → l.blk < w.heap.size → ∃ b0 l0, h.live b0 ∧ μ b0 = some l0 ∧ l0.blk = l.blk
  lwle : h'.lw ≤ h.lw
  old : ∀ b, b < h.nx → b < h'.lw → ∀ o, o.isDead = false → (h'.get b = some o ↔ h.get b = some o)
  wk : WK w w'

theorem Fr.refl (μ : Mu) (h : Hp) (w : World) : Fr μ h w μ h w :=
  ⟨Mu.le_refl _, fun _ _ => rfl, Nat.le_refl _, Nat.le_refl _, fun _ _ _ => rfl, fun b l a e _ => ⟨b, l, a, e, rfl⟩, Nat.le_refl _, fun _ _ _ _ _ => Iff.rfl, WK.refl _⟩

theorem Fr.trans {μ1 μ2 μ3 : Mu} {h1 h2 h3 : Hp} {w1 w2 w3 : World} (a : Fr μ1 h1 w1 μ2 h2 w2) (b : Fr μ2 h2 w2 μ3 h3 w3) : Fr μ1 h1 w1 μ3 h3 w3 where
  le := Mu.le_trans a.le b.le
  out := fun x hx => by
    have := a.nx; have := b.nx
    rcases hx with hx | hx
    · rw [b.out x (.inl (by omega)), a.out x (.inl hx)]
    · rw [b.out x (.inr hx), a.out x (.inr (by omega))]
  nx := Nat.le_trans a.nx b.nx
  sz := Nat.le_trans a.sz b.sz
  keep := fun r hr hn => by
    rw [b.keep r (Nat.lt_of_lt_of_le hr a.sz) (fun x l hx e he => ?_), a.keep r hr hn]
    obtain ⟨b0, l0, p, q, s⟩ := a.img x l hx e (by omega)
    exact hn b0 l0 p q (s.trans he)
  img := fun x l hx e hl => by
    obtain ⟨b0, l0, p, q, s⟩ := b.img x l hx e (Nat.lt_of_lt_of_le hl a.sz)
    obtain ⟨b1, l1, p', q', s'⟩ := a.img b0 l0 p q (by omega)
    exact ⟨b1, l1, p', q', s'.trans s⟩
  lwle := Nat.le_trans b.lwle a.lwle
  old := fun x h1 h2 o ho => by
    have := a.nx; have := b.lwle
    rw [b.old x (by omega) h2 o ho, a.old x h1 (by omega) o ho]
  wk := a.wk.trans b.wk

/-- The world's heap alone counts. -/
theorem WR.heap {P : Program} {μ : Mu} {h : Hp} {w w' : World} (r : WR P μ h w) (e : w'.heap = w.heap) : WR P μ h w' :=
  ⟨fun b o a d => by obtain ⟨l, o', x, y, z⟩ := r.live b o a d; exact ⟨l, o', x, by rw [e]; exact y, z⟩, r.inj, r.cap⟩
theorem Fr.heap {μ : Mu} {h : Hp} {w w' : World} (e : w'.heap = w.heap) (o : w'.os = w.os) (p : w'.output = w.output) : Fr μ h w μ h w' :=
  ⟨Mu.le_refl _, fun _ _ => rfl, Nat.le_refl _, by rw [e]; exact Nat.le_refl _, fun _ _ _ => by rw [e], fun b l a e _ => ⟨b, l, a, e, rfl⟩, Nat.le_refl _, fun _ _ _ _ _ => Iff.rfl, WK.heap e o p⟩

def Mu.add (μ : Mu) (b : Nat) (l : Spot) : Mu := fun c => if c = b then some l else μ c
theorem Mu.le_add {μ : Mu} {b : Nat} (l : Spot) (h : μ b = none) : μ.le (μ.add b l) := fun c x e => by
  unfold Mu.add
  by_cases hc : c = b
  · subst hc; rw [h] at e; cases e
  · rw [if_neg hc]; exact e
theorem Mu.add_self (μ : Mu) (b : Nat) (l : Spot) : μ.add b l b = some l := by simp [Mu.add]
theorem Mu.add_ne {μ : Mu} {b c : Nat} (l : Spot) (h : c ≠ b) : μ.add b l c = μ c := by simp [Mu.add, h]

theorem WR.lt {P : Program} {μ : Mu} {h : Hp} {w : World} (r : WR P μ h w) {b : Nat} {l : Spot} (hl : h.live b) (e : μ b = some l) : l.blk < w.heap.size := by
  obtain ⟨o, ho, hd⟩ := hl
  obtain ⟨l', o', a, b', _⟩ := r.live b o ho hd
  rw [e] at a; cases a
  exact (Array.getElem?_eq_some_iff.1 b').1

theorem WR.sameRow {P : Program} {μ : Mu} {h : Hp} {w : World} (r : WR P μ h w) {b : Nat} {l : Spot} {o : AObj} {o' : Obj} (hb : h.get b = some o) (hd : o.isDead = false) (hm : μ b = some l) (hn : ∀ c t, o ≠ .cells c t) :
    ∀ x, w.heap[l.blk]? = some x → SameRow x o' := by
  intro x hx
  obtain ⟨l2, o2, a, b2, q⟩ := r.live b o hb hd
  rw [hm] at a; cases a
  rw [hx] at b2; cases b2
  cases q with
  | cells => exact absurd rfl (hn _ _)
  | _ => exact SameRow.no fun _ _ _ e => by cases e

/-- A new block. -/
theorem WR.new {P : Program} {μ : Mu} {h : Hp} {w : World} (r : WR P μ h w) {o : AObj} {o' : Obj} {ex : Nat} (hr : h.room = true) (hf : μ h.nx = none)
    (ho : OR P (μ.add h.nx ⟨w.heap.size, 0, ex⟩) ⟨w.heap.size, 0, ex⟩ o o') :
    WR P (μ.add h.nx ⟨w.heap.size, 0, ex⟩) (h.new o) { w with heap := w.heap.push o' } ∧ Fr μ h w (μ.add h.nx ⟨w.heap.size, 0, ex⟩) (h.new o) { w with heap := w.heap.push o' } := by
  have hle := Mu.le_add (μ := μ) ⟨w.heap.size, 0, ex⟩ hf
  have hroom : h.nx < 2 ^ HD := by simpa [Hp.room, Nat.blt_eq] using hr
  have old : ∀ b, (h.new o).live b → b ≠ h.nx → h.live b := fun b ⟨x, hx, hd⟩ hne => by
    rw [Hp.get_new hr, if_neg (Ne.symm hne)] at hx; exact ⟨x, hx, hd⟩
  have lt : ∀ b l, h.live b → μ b = some l → l.blk < w.heap.size := fun b l a e => r.lt a e
  refine ⟨⟨?_, ?_, ?_⟩, ⟨hle, ?_, ?_, ?_, ?_, ?_, Nat.le_refl _, fun b hb _ o _ => by rw [Hp.get_new hr, if_neg (by omega)], WK.push _ _⟩⟩
  · intro b x hx hd
    rw [Hp.get_new hr] at hx
    by_cases hb : h.nx = b
    · rw [if_pos hb] at hx; cases hx; subst hb
      exact ⟨_, o', Mu.add_self _ _ _, by simp, ho⟩
    · rw [if_neg hb] at hx
      obtain ⟨l, y, p, q, s⟩ := r.live b x hx hd
      refine ⟨l, y, hle _ _ p, ?_, s.mono hle⟩
      have := (Array.getElem?_eq_some_iff.1 q).1
      rw [Array.getElem?_push_lt this]; rw [Array.getElem?_eq_getElem this] at q; exact q
  · intro b1 b2 l1 l2 h1 h2 e1 e2 he
    by_cases c1 : b1 = h.nx <;> by_cases c2 : b2 = h.nx
    · rw [c1, c2]
    · rw [c1, Mu.add_self] at e1; cases e1
      rw [Mu.add_ne _ c2] at e2
      have := lt b2 l2 (old b2 h2 c2) e2
      simp at he; omega
    · rw [c2, Mu.add_self] at e2; cases e2
      rw [Mu.add_ne _ c1] at e1
      have := lt b1 l1 (old b1 h1 c1) e1
      simp at he; omega
    · rw [Mu.add_ne _ c1] at e1
      rw [Mu.add_ne _ c2] at e2
      exact r.inj b1 b2 l1 l2 (old b1 h1 c1) (old b2 h2 c2) e1 e2 he
  · show h.nx + 1 ≤ _; omega
  · intro b hb
    exact Mu.add_ne _ (by rcases hb with hb | hb; · omega
                          · have : h.nx + 1 ≤ b := hb
                            omega)
  · show h.nx ≤ h.nx + 1; omega
  · simp
  · intro q hq _
    rw [Array.getElem?_push_lt hq, Array.getElem?_eq_getElem hq]
  · intro b l hb e hlt
    by_cases c : b = h.nx
    · rw [c, Mu.add_self] at e; cases e; simp at hlt
    · rw [Mu.add_ne _ c] at e
      exact ⟨b, l, old b hb c, e, rfl⟩

/-- A block that holds something else now. -/
theorem WR.put {P : Program} {μ : Mu} {h : Hp} {w : World} (r : WR P μ h w) {b : Nat} {l : Spot} {o : AObj} {o' : Obj} (hb : h.live b) (hm : μ b = some l) (ho : OR P μ l o o') (hsr : ∀ x, w.heap[l.blk]? = some x → SameRow x o') :
    WR P μ (h.put b o) { w with heap := w.heap.setIfInBounds l.blk o' } ∧ Fr μ h w μ (h.put b o) { w with heap := w.heap.setIfInBounds l.blk o' } := by
  have hlt := r.lt hb hm
  have hbx : b < h.nx := by obtain ⟨x, hx, _⟩ := hb; exact Hp.get_lt hx
  have old : ∀ c, (h.put b o).live c → h.live c := fun c ⟨x, hx, hd⟩ => by
    rw [Hp.get_put hbx r.cap] at hx
    by_cases hc : b = c
    · subst hc; exact hb
    · rw [if_neg hc] at hx; exact ⟨x, hx, hd⟩
  refine ⟨⟨?_, ?_, r.cap⟩, ⟨Mu.le_refl _, fun _ _ => rfl, Nat.le_refl _, by simp, ?_, ?_, (Hp.put_lw h b o).1, fun c _ hc x _ => by
    have := (Hp.put_lw h b o).2
    rw [Hp.get_put hbx r.cap, if_neg (by omega)], WK.set hsr⟩⟩
  · intro c x hx hd
    rw [Hp.get_put hbx r.cap] at hx
    by_cases hc : b = c
    · rw [if_pos hc] at hx; cases hx; subst hc
      exact ⟨l, o', hm, by simp [hlt], ho⟩
    · rw [if_neg hc] at hx
      obtain ⟨l2, y, p, q, s⟩ := r.live c x hx hd
      refine ⟨l2, y, p, ?_, s⟩
      have hne : l.blk ≠ l2.blk := fun e => hc (r.inj b c l l2 hb ⟨x, hx, hd⟩ hm p e)
      show (w.heap.setIfInBounds l.blk o')[l2.blk]? = _
      rw [Array.getElem?_setIfInBounds_ne hne]; exact q
  · intro b1 b2 l1 l2 h1 h2 e1 e2 he
    exact r.inj b1 b2 l1 l2 (old _ h1) (old _ h2) e1 e2 he
  · intro q hq hn
    show (w.heap.setIfInBounds l.blk o')[q]? = _
    rw [Array.getElem?_setIfInBounds_ne (hn b l hb hm)]
  · intro c l2 hc e _
    exact ⟨c, l2, old c hc, e, rfl⟩

/-- A block of which nothing more is said. -/
theorem WR.kill {P : Program} {μ : Mu} {h : Hp} {w : World} (r : WR P μ h w) {b : Nat} (hb : b < h.nx) :
    WR P μ (h.put b .dead) w ∧ Fr μ h w μ (h.put b .dead) w := by
  have old : ∀ c, (h.put b .dead).live c → c ≠ b ∧ h.live c := fun c ⟨x, hx, hd⟩ => by
    rw [Hp.get_put hb r.cap] at hx
    by_cases hc : b = c
    · subst hc; rw [if_pos rfl] at hx; cases hx; cases hd
    · rw [if_neg hc] at hx; exact ⟨Ne.symm hc, x, hx, hd⟩
  refine ⟨⟨?_, fun b1 b2 l1 l2 h1 h2 e1 e2 he => r.inj b1 b2 l1 l2 (old _ h1).2 (old _ h2).2 e1 e2 he, r.cap⟩, ⟨Mu.le_refl _, fun _ _ => rfl, Nat.le_refl _, Nat.le_refl _, fun _ _ _ => rfl, fun c l hc e _ => ⟨c, l, (old c hc).2, e, rfl⟩, (Hp.put_lw h b .dead).1, fun c _ hc x _ => by
    have := (Hp.put_lw h b .dead).2
    rw [Hp.get_put hb r.cap, if_neg (by omega)], WK.refl _⟩⟩
  intro c x hx hd
  rw [Hp.get_put hb r.cap] at hx
  by_cases hc : b = c
  · rw [if_pos hc] at hx; cases hx; cases hd
  · rw [if_neg hc] at hx; exact r.live c x hx hd

/-- The new block that lies where an old one lay, which is given up (an append in place): the old one's place, shifted. -/
theorem WR.fork {P : Program} {μ : Mu} {h : Hp} {w : World} (r : WR P μ h w) {b : Nat} {l l' : Spot} {o : AObj} {o' : Obj} (hr : h.room = true) (hf : μ h.nx = none) (hb : h.live b) (hm : μ b = some l) (hl : l'.blk = l.blk)
    (ho : OR P (μ.add h.nx l') l' o o') (hsr : ∀ x, w.heap[l.blk]? = some x → SameRow x o') :
    WR P (μ.add h.nx l') ((h.put b .dead).new o) { w with heap := w.heap.setIfInBounds l.blk o' } ∧
      Fr μ h w (μ.add h.nx l') ((h.put b .dead).new o) { w with heap := w.heap.setIfInBounds l.blk o' } := by
  have hlt := r.lt hb hm
  have hbx : b < h.nx := by obtain ⟨x, hx, _⟩ := hb; exact Hp.get_lt hx
  have hle := Mu.le_add (μ := μ) l' hf
  have hr' : (h.put b .dead).room = true := hr
  have hroom : h.nx < 2 ^ HD := by simpa [Hp.room, Nat.blt_eq] using hr
  have hnx : (h.put b .dead).nx = h.nx := rfl
  have old : ∀ c x, ((h.put b .dead).new o).get c = some x → x.isDead = false → c ≠ h.nx → c ≠ b ∧ h.get c = some x := fun c x hx hd hne => by
    rw [Hp.get_new hr', hnx, if_neg (Ne.symm hne), Hp.get_put hbx r.cap] at hx
    by_cases hc : b = c
    · rw [if_pos hc] at hx; cases hx; cases hd
    · rw [if_neg hc] at hx; exact ⟨Ne.symm hc, hx⟩
  refine ⟨⟨?_, ?_, ?_⟩, ⟨hle, ?_, ?_, by simp, ?_, ?_, (Hp.put_lw h b .dead).1, fun c hc1 hc2 x _ => by
    have h1 : ((h.put b .dead).new o).lw = (h.put b .dead).lw := rfl
    have := (Hp.put_lw h b .dead).2
    rw [Hp.get_new hr', hnx, if_neg (by omega), Hp.get_put hbx r.cap, if_neg (by omega)], WK.set hsr⟩⟩
  · intro c x hx hd
    by_cases hc : c = h.nx
    · rw [Hp.get_new hr', hnx, if_pos hc.symm] at hx; cases hx; subst hc
      exact ⟨l', o', Mu.add_self _ _ _, by rw [hl]; simp [hlt], ho⟩
    · obtain ⟨hcb, hx'⟩ := old c x hx hd hc
      obtain ⟨l2, y, p, q, s⟩ := r.live c x hx' hd
      refine ⟨l2, y, hle _ _ p, ?_, s.mono hle⟩
      have hne : l.blk ≠ l2.blk := fun e => hcb (r.inj b c l l2 hb ⟨x, hx', hd⟩ hm p e).symm
      show (w.heap.setIfInBounds l.blk o')[l2.blk]? = _
      rw [Array.getElem?_setIfInBounds_ne hne]; exact q
  · rintro b1 b2 l1 l2 ⟨x1, h1, d1⟩ ⟨x2, h2, d2⟩ e1 e2 he
    by_cases c1 : b1 = h.nx <;> by_cases c2 : b2 = h.nx
    · rw [c1, c2]
    · exfalso
      rw [c1, Mu.add_self] at e1; cases e1
      rw [Mu.add_ne _ c2] at e2
      obtain ⟨p, q⟩ := old b2 x2 h2 d2 c2
      exact p (r.inj b2 b l2 l ⟨x2, q, d2⟩ hb e2 hm (by rw [← he, hl]))
    · exfalso
      rw [c2, Mu.add_self] at e2; cases e2
      rw [Mu.add_ne _ c1] at e1
      obtain ⟨p, q⟩ := old b1 x1 h1 d1 c1
      exact p (r.inj b1 b l1 l ⟨x1, q, d1⟩ hb e1 hm (by rw [he, hl]))
    · rw [Mu.add_ne _ c1] at e1
      rw [Mu.add_ne _ c2] at e2
      exact r.inj b1 b2 l1 l2 ⟨x1, (old b1 x1 h1 d1 c1).2, d1⟩ ⟨x2, (old b2 x2 h2 d2 c2).2, d2⟩ e1 e2 he
  · show h.nx + 1 ≤ _; omega
  · intro c hc
    exact Mu.add_ne _ (by rcases hc with hc | hc; · omega
                          · have : h.nx + 1 ≤ c := hc
                            omega)
  · show h.nx ≤ h.nx + 1; omega
  · intro q hq hn
    show (w.heap.setIfInBounds l.blk o')[q]? = _
    rw [Array.getElem?_setIfInBounds_ne (hn b l hb hm)]
  · rintro c l2 ⟨x, hx, hd⟩ e _
    by_cases hc : c = h.nx
    · rw [hc, Mu.add_self] at e; cases e
      exact ⟨b, l, hb, hm, hl.symm⟩
    · rw [Mu.add_ne _ hc] at e
      exact ⟨c, l2, ⟨x, (old c x hx hd hc).2, hd⟩, e, rfl⟩

end Go.Ev

/-! The evaluator's operations on memory: what each gives on the abstract heap, and that the model's own operation gives the same in every world that the heap describes. -/
namespace Go.Ev
open Go

section
variable (P : Program)

def isAggT (t : TypeId) : Option Bool :=
  match P.underlying t with
  | some (.struct _) => some true
  | some (.array _ _) => some true
  | some _ => some false
  | none => none

def sizeT (t : TypeId) : Option Nat := match P.info? t with | some i => some i.size | none => none
def zeroT (t : TypeId) : Option Value := match P.info? t with | some i => i.zero | none => none

variable {P}
theorem run_isAggT {t : TypeId} {b : Bool} (h : isAggT P t = some b) (w : World) : (isAgg t).run P w = .ok b w := by
  unfold isAggT at h
  cases hu : P.underlying t with
  | none => rw [hu] at h; cases h
  | some d =>
    rw [hu] at h
    simp only [isAgg, Sem.run_bind, run_underlying hu, Result.andThen_ok]
    cases d <;> simp_all
theorem run_sizeT {t : TypeId} {n : Nat} (h : sizeT P t = some n) (w : World) : (sizeOf t).run P w = .ok n w := by
  unfold sizeT at h
  cases hi : P.info? t with
  | none => rw [hi] at h; cases h
  | some i =>
    rw [hi] at h; cases h
    simp [sizeOf, typeInfo, hi]
theorem run_zeroT {t : TypeId} {v : Value} (h : zeroT P t = some v) (w : World) : (zeroValue t).run P w = .ok v w := by
  unfold zeroT at h
  cases hi : P.info? t with
  | none => rw [hi] at h; cases h
  | some i =>
    rw [hi] at h
    simp only at h
    simp [zeroValue, typeInfo, hi, h]
theorem run_typeInfo' {t : TypeId} {i : TypeInfo} (h : P.info? t = some i) (w : World) : (typeInfo t).run P w = .ok i w := by
  simp [typeInfo, h]

/-! ### Running what asks the program alone -/
def runFree {α : Type} (P : Program) : Sem α → Option α
  | .pure a => some a
  | .program k => runFree P (k P)
  | .mark _ k => runFree P k
  | _ => none

theorem runFree_ok {α : Type} : ∀ (s : Sem α) (a : α) (w : World), runFree P s = some a → s.run P w = .ok a w := by
  intro s
  induction s with
  | pure a => intro b w h; simp [runFree] at h; subst h; rfl
  | program k ih => intro b w h; exact ih P b w h
  | mark m k ih => intro b w h; exact ih b w h
  | _ => intro b w h; simp [runFree] at h

/-! ### Loading and storing -/
theorem OR.row {μ : Mu} {l : Spot} {c : List Value} {t : TypeId} {o' : Obj} (r : OR P μ l (.cells c t) o') :
    ∃ c' i, o' = .cells c' t (0, 0) ∧ P.info? t = some i ∧ l.sh + c.length + l.ex * i.size ≤ c'.size ∧ ∀ (j : Nat) x, c[j]? = some x → ∃ y, c'[l.sh + j]? = some y ∧ VR μ x y := by
  cases r with
  | cells a b c => exact ⟨_, _, rfl, a, b, c⟩

def Hp.row (h : Hp) (b : Nat) : Option (List Value × TypeId) :=
  match h.get b with
  | some (.cells c t) => some (c, t)
  | _ => none

theorem Hp.row_get {h : Hp} {b : Nat} {c : List Value} {t : TypeId} (e : h.row b = some (c, t)) : h.get b = some (.cells c t) := by
  unfold Hp.row at e
  split at e <;> simp_all

theorem WR.row {μ : Mu} {h : Hp} {w : World} (r : WR P μ h w) {b : Nat} {c : List Value} {t : TypeId} (e : h.row b = some (c, t)) :
    ∃ l c' i, μ b = some l ∧ w.heap[l.blk]? = some (.cells c' t (0, 0)) ∧ P.info? t = some i ∧ l.sh + c.length + l.ex * i.size ≤ c'.size ∧
      ∀ (j : Nat) x, c[j]? = some x → ∃ y, c'[l.sh + j]? = some y ∧ VR μ x y := by
  obtain ⟨l, o', a, b', q⟩ := r.live b _ (Hp.row_get e) rfl
  obtain ⟨c', i, rfl, p1, p2, p3⟩ := q.row
  exact ⟨l, c', i, a, b', p1, p2, p3⟩

theorem Hp.live_row {h : Hp} {b : Nat} {c : List Value} {t : TypeId} (e : h.row b = some (c, t)) : h.live b := ⟨_, Hp.row_get e, rfl⟩

theorem addr_add (b o n : Nat) : (⟨b, o, none⟩ : Addr).add n = ⟨b, o + n, none⟩ := by unfold Addr.add; split <;> simp_all

/-- The segment of a row. -/
def seg (c : List Value) (o n : Nat) : Option (List Value) :=
  match Nat.ble (o + n) c.length with
  | true => some ((c.drop o).take n)
  | false => none

theorem seg_some {c : List Value} {o n : Nat} {s : List Value} (h : seg c o n = some s) : o + n ≤ c.length ∧ s = (c.drop o).take n := by
  unfold seg at h
  cases q : Nat.ble (o + n) c.length with
  | false => rw [q] at h; cases h
  | true => rw [q] at h; cases h; exact ⟨by simpa using q, rfl⟩

theorem run_seg {μ : Mu} {g : Nat} {t : TypeId} {c : List Value} {c' : Array Value} {sh o n : Nat} {s : List Value}
    (hr : ∀ (j : Nat) x, c[j]? = some x → ∃ y, c'[sh + j]? = some y ∧ VR μ x y) (hs : seg c o n = some s) :
    ∃ s', (∀ w : World, w.heap[g]? = some (.cells c' t (0, 0)) → (loadCells ⟨g, sh + o, none⟩ n).run P w = .ok s' w) ∧ AllR μ s.toArray s' := by
  obtain ⟨hle, rfl⟩ := seg_some hs
  let s' : List Value := (List.range n).map fun j => c'.getD (sh + o + j) undef
  have key : ∀ j, j < n → ∃ x y, c[o + j]? = some x ∧ c'[sh + o + j]? = some y ∧ VR μ x y := by
    intro j hj
    have hx : c[o + j]? = some (c[o + j]'(by omega)) := List.getElem?_eq_getElem _
    obtain ⟨y, hy, hv⟩ := hr _ _ hx
    exact ⟨_, y, hx, by rw [Nat.add_assoc]; exact hy, hv⟩
  refine ⟨s'.toArray, ?_, ?_⟩
  · intro w hg
    exact run_loadCells (P := P) w ⟨g, sh + o, none⟩ n (fun j => c'.getD (sh + o + j) undef) (fun j hj => by
      rw [addr_add]
      obtain ⟨x, y, _, hy, _⟩ := key j hj
      simp [World.cell?, hg, hy])
  · refine ⟨by simp [s']; omega, fun i x y hx hy => ?_⟩
    simp only [List.getElem?_toArray] at hx hy
    rw [List.getElem?_take] at hx
    split at hx
    · rename_i hi
      rw [List.getElem?_drop] at hx
      obtain ⟨x', y', h1, h2, h3⟩ := key i hi
      rw [h1] at hx; cases hx
      simp only [s', List.getElem?_map, List.getElem?_range hi, Option.map_some, Option.some.injEq] at hy
      simp [h2] at hy
      rw [← hy]; exact h3
    · cases hx

def aLoad (P : Program) (h : Hp) (t : TypeId) (a : Value) : Option Value :=
  match a with
  | .pointer (some ⟨b, o, none⟩) =>
    match h.row b with
    | some (c, _) =>
      match isAggT P t with
      | some true => match sizeT P t with
        | some n => match seg c o n with
          | some s => some (.agg s.toArray)
          | none => none
        | none => none
      | some false => c[o]?
      | none => none
    | none => none
  | _ => none

theorem aLoad_ok {μ : Mu} {h : Hp} {w : World} (r : WR P μ h w) {t : TypeId} {a a' v : Value} (ha : VR μ a a') (e : aLoad P h t a = some v) :
    ∃ v', (Instr.loadAt t a').run P w = .ok v' w ∧ VR μ v v' := by
  unfold aLoad at e
  split at e
  · rename_i b o
    cases hrow : h.row b with
    | none => rw [hrow] at e; cases e
    | some q =>
      obtain ⟨c, ty⟩ := q
      rw [hrow] at e; simp only at e
      obtain ⟨l, c', i, hm, hg, hi, hsz, hc⟩ := r.row hrow
      cases ha with
      | ptr hm2 =>
        rw [hm] at hm2; cases hm2
        cases hagg : isAggT P t with
        | none => rw [hagg] at e; cases e
        | some bb =>
          rw [hagg] at e
          cases bb with
          | true =>
            simp only at e
            cases hs : sizeT P t with
            | none => rw [hs] at e; cases e
            | some n =>
              rw [hs] at e; simp only at e
              cases hseg : seg c o n with
              | none => rw [hseg] at e; cases e
              | some s =>
                rw [hseg] at e; cases e
                obtain ⟨s', h1, h2⟩ := run_seg (P := P) (g := l.blk) (t := ty) hc hseg
                refine ⟨.agg s', ?_, .agg h2.1 h2.2⟩
                simp [Instr.loadAt, Instr.sureAddr, loadVar, run_isAggT hagg, run_sizeT hs, h1 w hg]
          | false =>
            simp only at e
            obtain ⟨y, hy, hv⟩ := hc o v e
            refine ⟨y, ?_, hv⟩
            simp [Instr.loadAt, Instr.sureAddr, loadVar, run_isAggT hagg, World.cell?, hg, hy]
  · cases e

/-- A row with a segment turned. -/
def segSet (c : List Value) (o : Nat) (s : List Value) : Option (List Value) :=
  match Nat.ble (o + s.length) c.length with
  | true => some (c.take o ++ s ++ c.drop (o + s.length))
  | false => none

def oneC : Value → Bool
  | .agg _ => false
  | .tuple _ => false
  | _ => true

theorem VR.one {μ : Mu} {v v' : Value} (r : VR μ v v') (h : oneC v = true) : v'.oneCell' = true := by
  cases r <;> first | rfl | (simp [oneC] at h)

theorem setRow_set (w : World) (g : Nat) (old cs : Array Value) (t : TypeId) (fr : Nat × Nat) (hg : w.heap[g]? = some (.cells old t fr)) :
    w.setRow g cs = { w with heap := w.heap.setIfInBounds g (.cells cs t fr) } := by
  have hlt : g < w.heap.size := (Array.getElem?_eq_some_iff.1 hg).1
  have hv : w.heap[g] = .cells old t fr := (Array.getElem?_eq_some_iff.1 hg).2
  unfold World.setRow
  congr 1
  apply Array.ext
  · simp
  · intro i h1 h2
    by_cases hi : g = i
    · subst hi; rw [Array.getElem_modify_self, hv]; simp
    · rw [Array.getElem_modify, if_neg hi]
      rw [Array.getElem_setIfInBounds (by simpa using h1)]
      rw [if_neg hi]

/-- Cells laid over a row in the world and over its description. -/
theorem WR.write {μ : Mu} {h : Hp} {w : World} (r : WR P μ h w) {b o : Nat} {c c2 s : List Value} {t : TypeId} {s' : List Value} {l : Spot} (hrow : h.row b = some (c, t)) (hm : μ b = some l)
    (hs : LR μ s s') (h1 : s.all oneC = true) (e : segSet c o s = some c2) :
    ∃ w', (storeCells ⟨l.blk, l.sh + o, none⟩ s').run P w = .ok () w' ∧ WR P μ (h.put b (.cells c2 t)) w' ∧ Fr μ h w μ (h.put b (.cells c2 t)) w' := by
  obtain ⟨l2, c', i, hm2, hg, hi, hsz, hc⟩ := r.row hrow
  rw [hm] at hm2; cases hm2
  unfold segSet at e
  cases q : Nat.ble (o + s.length) c.length with
  | false => rw [q] at e; cases e
  | true =>
    rw [q] at e; cases e
    have hle : o + s.length ≤ c.length := by simpa using q
    have hlen : s'.length = s.length := hs.1.symm
    have hone : ∀ v ∈ s', v.oneCell' = true := by
      intro v hv
      obtain ⟨j, hj⟩ := List.mem_iff_getElem?.1 hv
      have hjl : j < s.length := by rw [hs.1]; exact (List.getElem?_eq_some_iff.1 hj).1
      have hx : s[j]? = some s[j] := List.getElem?_eq_getElem hjl
      exact (hs.2 j _ _ hx hj).one (List.all_eq_true.1 h1 _ (by simp))
    have hst := run_storeCells_at P l.blk (l.sh + o) t s' 0 c' w hg (by omega) hone
    refine ⟨_, hst, ?_⟩
    rw [setRow_set _ _ _ _ _ _ hg]
    refine r.put (Hp.live_row hrow) hm (.cells hi ?_ ?_) (fun x hx => by
      rw [hg] at hx; cases hx
      intro c t f e; cases e
      exact ⟨_, rfl, by simp only [List.size_toArray, List.length_append, List.length_take, List.length_drop, Array.length_toList]; omega⟩)
    · simp only [List.size_toArray, List.length_append, List.length_take, List.length_drop, Array.length_toList]
      omega
    · intro j x hx
      simp only [Nat.add_zero, List.getElem?_toArray]
      by_cases hj1 : j < o
      · rw [List.append_assoc, List.getElem?_append_left (by simp; omega), List.getElem?_take, if_pos hj1] at hx
        obtain ⟨y, hy, hv⟩ := hc j x hx
        refine ⟨y, ?_, hv⟩
        rw [List.append_assoc, List.getElem?_append_left (by simp; omega), List.getElem?_take, if_pos (by omega)]
        simpa using hy
      · by_cases hj2 : j < o + s.length
        · rw [List.append_assoc, List.getElem?_append_right (by simp; omega), List.getElem?_append_left (by simp; omega)] at hx
          have hlo : (c.take o).length = o := by simp; omega
          rw [hlo] at hx
          have hj3 : j - o < s'.length := by omega
          refine ⟨s'[j - o], ?_, hs.2 _ _ _ hx (List.getElem?_eq_getElem hj3)⟩
          have hlo' : (c'.toList.take (l.sh + o)).length = l.sh + o := by simp; omega
          rw [List.append_assoc, List.getElem?_append_right (by rw [hlo']; omega), hlo', show l.sh + j - (l.sh + o) = j - o by omega, List.getElem?_append_left hj3, List.getElem?_eq_getElem hj3]
        · have hla : (c.take o ++ s).length = o + s.length := by simp; omega
          rw [List.getElem?_append_right (by rw [hla]; omega), hla, List.getElem?_drop] at hx
          rw [show o + s.length + (j - (o + s.length)) = j by omega] at hx
          obtain ⟨y, hy, hv⟩ := hc j x hx
          refine ⟨y, ?_, hv⟩
          have hla' : (c'.toList.take (l.sh + o) ++ s').length = l.sh + o + s'.length := by simp; omega
          rw [List.getElem?_append_right (by rw [hla']; omega), hla', List.getElem?_drop]
          rw [show l.sh + o + s'.length + (l.sh + j - (l.sh + o + s'.length)) = l.sh + j by omega]
          simpa using hy

def cellsOf (v : Value) : List Value := match v with | .agg cs => cs.toList | v => [v]

theorem VR.cells {μ : Mu} {v v' : Value} (r : VR μ v v') : LR μ (cellsOf v) v'.cells.toList := by
  cases r with
  | agg a b => exact AllR.toList ⟨a, b⟩
  | _ => simp only [cellsOf, Value.cells]; exact LR.cons (by constructor <;> assumption) (LR.nil _)

def aStore (P : Program) (h : Hp) (t : TypeId) (a v : Value) : Option Hp :=
  match a with
  | .pointer (some ⟨b, o, none⟩) =>
    match h.row b with
    | some (c, ty) =>
      match sizeT P t with
      | some n =>
        match Nat.beq (cellsOf v).length n, (cellsOf v).all oneC with
        | true, true => match segSet c o (cellsOf v) with
          | some c2 => some (h.put b (.cells c2 ty))
          | none => none
        | _, _ => none
      | none => none
    | none => none
  | _ => none

theorem aStore_ok {μ : Mu} {h h' : Hp} {w : World} (r : WR P μ h w) {t : TypeId} {a a' v v' : Value} (ha : VR μ a a') (hv : VR μ v v') (e : aStore P h t a v = some h') :
    ∃ w', (Instr.storeAt t a' v').run P w = .ok () w' ∧ WR P μ h' w' ∧ Fr μ h w μ h' w' := by
  unfold aStore at e
  split at e
  · rename_i b o
    cases hrow : h.row b with
    | none => rw [hrow] at e; cases e
    | some q =>
      obtain ⟨c, ty⟩ := q
      rw [hrow] at e; simp only at e
      cases ha with
      | ptr hm =>
        cases hs : sizeT P t with
        | none => rw [hs] at e; cases e
        | some n =>
          rw [hs] at e; simp only at e
          split at e
          · rename_i h1 h2
            cases hseg : segSet c o (cellsOf v) with
            | none => rw [hseg] at e; cases e
            | some c2 =>
              rw [hseg] at e; cases e
              obtain ⟨w', k1, k2, k3⟩ := r.write (P := P) hrow hm hv.cells h2 hseg
              refine ⟨w', ?_, k2, k3⟩
              have hn : v'.cells.size = n := by
                have := hv.cells.1
                simp only [Array.length_toList] at this
                rw [← this]; exact Nat.eq_of_beq_eq_true h1
              simp [Instr.storeAt, Instr.sureAddr, storeVar, run_sizeT hs, hn, k1]
          · cases e
  · cases e

end
end Go.Ev

/-! The evaluator's operations that make memory, and those on addresses, slices and function values. -/
namespace Go.Ev
open Go

section
variable {P : Program}

theorem Fr.of_eq {μ μ' : Mu} {h h' : Hp} {w w' : World} (r : Fr μ h w μ' h' w') : μ.le μ' := r.le

/-- A new row of cells. -/
theorem WR.newRow {μ : Mu} {h : Hp} {w : World} (r : WR P μ h w) {c : List Value} {c' : Array Value} {t : TypeId} {n : Nat} (hr : h.room = true) (hf : μ h.nx = none) (hs : sizeT P t = some n) (hc : LR μ c c'.toList) :
    WR P (μ.add h.nx ⟨w.heap.size, 0, 0⟩) (h.new (.cells c t)) { w with heap := w.heap.push (.cells c' t) } ∧
      Fr μ h w (μ.add h.nx ⟨w.heap.size, 0, 0⟩) (h.new (.cells c t)) { w with heap := w.heap.push (.cells c' t) } := by
  have hle := Mu.le_add (μ := μ) ⟨w.heap.size, 0, 0⟩ hf
  unfold sizeT at hs
  cases hi : P.info? t with
  | none => rw [hi] at hs; cases hs
  | some i =>
    refine r.new hr hf (.cells hi ?_ ?_)
    · have := hc.1; simp at this ⊢; omega
    · intro j x hx
      have hj : j < c'.toList.length := by rw [← hc.1]; exact (List.getElem?_eq_some_iff.1 hx).1
      refine ⟨c'.toList[j], ?_, (hc.2 j _ _ hx (List.getElem?_eq_getElem hj)).mono hle⟩
      simp only [Nat.zero_add]
      rw [← Array.getElem?_toList]; exact List.getElem?_eq_getElem hj

/-- Like operations that give a value: what is said of the abstract one and of the model's. -/
def ValOK (P : Program) (μ : Mu) (h : Hp) (w : World) (s : Sem Value) (v : Value) (h' : Hp) : Prop :=
  ∃ μ' v' w', s.run P w = .ok v' w' ∧ VR μ' v v' ∧ WR P μ' h' w' ∧ Fr μ h w μ' h' w'

def Fresh (μ : Mu) (h h' : Hp) : Prop := ∀ b, h.nx ≤ b → b < h'.nx → μ b = none

theorem Fresh.new {μ : Mu} {h : Hp} {o : AObj} (f : Fresh μ h (h.new o)) : μ h.nx = none := f _ (Nat.le_refl _) (Nat.lt_succ_self _)

def aNew (P : Program) (h : Hp) (t : TypeId) (c : List Value) : Option (Value × Hp) :=
  match h.room, sizeT P t with
  | true, some _ => some (.pointer (some ⟨h.nx, 0, none⟩), h.new (.cells c t))
  | _, _ => none

theorem aNew_ok {μ : Mu} {h h' : Hp} {w : World} (r : WR P μ h w) {t : TypeId} {c : List Value} {c' : Array Value} {v : Value} (hc : LR μ c c'.toList) (e : aNew P h t c = some (v, h')) (f : Fresh μ h h') :
    ∃ μ' w', (newRow t c').run P w = .ok ⟨w.heap.size, 0, none⟩ w' ∧ VR μ' v (.pointer (some ⟨w.heap.size, 0, none⟩)) ∧ WR P μ' h' w' ∧ Fr μ h w μ' h' w' := by
  unfold aNew at e
  split at e
  · rename_i n hr hs
    cases e
    obtain ⟨a, b⟩ := r.newRow hr f.new hs hc
    refine ⟨_, _, by simp [newRow], ?_, a, b⟩
    have := VR.ptr (μ := μ.add h.nx ⟨w.heap.size, 0, 0⟩) (b := h.nx) (o := 0) (Mu.add_self _ _ _)
    simpa using this
  · cases e

def aAlloc (P : Program) (h : Hp) (t : TypeId) : Option (Value × Hp) :=
  match zeroT P t with
  | some z => match gr 6 z with
    | true => aNew P h t (cellsOf z)
    | false => none
  | none => none

theorem aAlloc_ok {μ : Mu} {h h' : Hp} {w : World} (r : WR P μ h w) {t : TypeId} {v : Value} (e : aAlloc P h t = some (v, h')) (f : Fresh μ h h') :
    ValOK P μ h w (Instr.alloc t true (.tuple #[])) v h' := by
  unfold aAlloc at e
  split at e
  · rename_i z hz
    split at e
    · rename_i hg
      obtain ⟨μ', w', a, b, c, d⟩ := aNew_ok r (gr_refl (μ := μ) 6 z hg).cells e f
      exact ⟨μ', _, w', by simp [Instr.alloc, run_zeroT hz, newVar, a], b, c, d⟩
    · cases e
  · cases e

def aBox (P : Program) (h : Hp) (t : TypeId) (x : Value) : Option (Value × Hp) := aNew P h t (cellsOf x)

theorem aBox_ok {μ : Mu} {h h' : Hp} {w : World} (r : WR P μ h w) {t : TypeId} {v x x' : Value} (hx : VR μ x x') (e : aBox P h t x = some (v, h')) (f : Fresh μ h h') :
    ValOK P μ h w (Instr.box t x') v h' := by
  obtain ⟨μ', w', a, b, c, d⟩ := aNew_ok r hx.cells e f
  exact ⟨μ', _, w', by simp [Instr.box, newVar, a], b, c, d⟩

/-! ### Values put together -/
theorem runFree_bind {α β : Type} (s : Sem α) (f : α → Sem β) : runFree P (s >>= f) = (runFree P s).bind fun a => runFree P (f a) := by
  show runFree P (Sem.bind s f) = _
  induction s with
  | pure a => rfl
  | program k ih => exact ih P
  | mark m k ih => exact ih
  | _ => rfl

/-- Parts with their places: alike. -/
def PtR (μ : Mu) (a a' : List (Nat × Value)) : Prop := a.length = a'.length ∧ ∀ (i : Nat) x y, a[i]? = some x → a'[i]? = some y → x.1 = y.1 ∧ VR μ x.2 y.2

theorem fold_set {μ : Mu} (off : Nat) : ∀ (l l' : List (Value × Nat)) (c c' : Array Value), l.length = l'.length → (∀ (i : Nat) x y, l[i]? = some x → l'[i]? = some y → x.2 = y.2 ∧ VR μ x.1 y.1) → AllR μ c c' →
    AllR μ (l.foldl (fun cs (p : Value × Nat) => cs.setIfInBounds (off + p.2) p.1) c) (l'.foldl (fun cs (p : Value × Nat) => cs.setIfInBounds (off + p.2) p.1) c') := by
  intro l
  induction l with
  | nil => intro l' c c' hl _ hc; cases l' with | nil => exact hc | cons _ _ => simp at hl
  | cons p l ih =>
    intro l' c c' hl hr hc
    cases l' with
    | nil => simp at hl
    | cons p' l' =>
      simp only [List.foldl_cons]
      obtain ⟨h1, h2⟩ := hr 0 p p' (by simp) (by simp)
      refine ih l' _ _ (by simpa using hl) (fun i x y hx hy => hr (i + 1) x y (by simpa using hx) (by simpa using hy)) ⟨by simp [hc.1], fun i x y hx hy => ?_⟩
      rw [← h1] at hy
      rw [Array.getElem?_setIfInBounds] at hx hy
      split at hx
      · rename_i he
        rw [if_pos he] at hy
        split at hx
        · cases hx
          rw [if_pos (by rw [← hc.1]; assumption)] at hy
          cases hy; exact h2
        · cases hx
      · rename_i he
        rw [if_neg he] at hy
        exact hc.2 i x y hx hy

theorem VR.cellsA {μ : Mu} {v v' : Value} (r : VR μ v v') : AllR μ v.cells v'.cells := by
  have h := r.cells
  have e : cellsOf v = v.cells.toList := by cases v <;> rfl
  rw [e] at h
  simpa using h.toArray

theorem fill_rel {μ : Mu} (place : Nat → Option (Nat × Nat)) : ∀ (ps ps' : List (Nat × Value)) (c c' r : Array Value), PtR μ ps ps' → AllR μ c c' → Instr.fill place c ps = some r →
    ∃ r', Instr.fill place c' ps' = some r' ∧ AllR μ r r' := by
  intro ps
  induction ps with
  | nil =>
    intro ps' c c' r hp hc e
    cases ps' with
    | nil => simp only [Instr.fill, Option.some.injEq] at e ⊢; subst e; exact ⟨c', rfl, hc⟩
    | cons _ _ => simp [PtR] at hp
  | cons p ps ih =>
    intro ps' c c' r hp hc e
    cases ps' with
    | nil => simp [PtR] at hp
    | cons p' ps' =>
      obtain ⟨i, v⟩ := p
      obtain ⟨i', v'⟩ := p'
      obtain ⟨h1, h2⟩ := hp.2 0 (i, v) (i', v') (by simp) (by simp)
      simp only at h1 h2
      subst h1
      simp only [Instr.fill] at e ⊢
      cases hpl : place i with
      | none => rw [hpl] at e; cases e
      | some q =>
        obtain ⟨off, size⟩ := q
        rw [hpl] at e
        simp only at e ⊢
        have hs := h2.cellsA.1
        split at e
        · cases e
        · rename_i hn
          rw [if_neg (by rw [← hs, ← hc.1]; exact hn)]
          refine ih ps' _ _ r ⟨by simpa using hp.1, fun j x y hx hy => hp.2 (j + 1) x y (by simpa using hx) (by simpa using hy)⟩ ?_ e
          rw [← Array.foldl_toList, ← Array.foldl_toList]
          refine fold_set off _ _ _ _ (by simp [hs]) (fun j x y hx hy => ?_) hc
          simp only [Array.toList_zipIdx] at hx hy
          rw [List.getElem?_zipIdx] at hx hy
          cases hxa : v.cells.toList[j]? with
          | none => rw [hxa] at hx; cases hx
          | some xa =>
            cases hya : v'.cells.toList[j]? with
            | none => rw [hya] at hy; cases hy
            | some ya =>
              rw [hxa] at hx; rw [hya] at hy
              simp only [Option.map_some, Option.some.injEq] at hx hy
              subst hx; subst hy
              exact ⟨rfl, h2.cellsA.2 j _ _ (by simpa using hxa) (by simpa using hya)⟩

theorem AllR.refl_ground {μ : Mu} {n : Nat} {a : Array Value} (h : a.toList.all (gr n) = true) : AllR μ a a :=
  ⟨rfl, fun i x y hx hy => by
    rw [hx] at hy; cases hy
    exact gr_refl n _ (List.all_eq_true.1 h _ (by obtain ⟨hi, rfl⟩ := Array.getElem?_eq_some_iff.1 hx; simp))⟩

def aBuild (P : Program) (t : TypeId) (parts : Array (Nat × Value)) : Option Value :=
  match zeroT P t with
  | some z => match z.cells.toList.all (gr 5) with
    | true => runFree P (Instr.build t parts)
    | false => none
  | none => none

theorem aBuild_ok {μ : Mu} {t : TypeId} {ps ps' : Array (Nat × Value)} {v : Value} (hp : PtR μ ps.toList ps'.toList) (e : aBuild P t ps = some v) (w : World) :
    ∃ v', (Instr.build t ps').run P w = .ok v' w ∧ VR μ v v' := by
  unfold aBuild at e
  split at e
  · rename_i z hz
    split at e
    · rename_i hg
      unfold Instr.build at e ⊢
      have fz : runFree P (zeroValue t) = some z := by
        unfold zeroT at hz
        cases hi : P.info? t with
        | none => rw [hi] at hz; cases hz
        | some i =>
          rw [hi] at hz; simp only at hz
          simp only [zeroValue, typeInfo, program, runFree_bind]
          simp [runFree, hi, hz, Pure.pure]
      simp only [runFree_bind, fz, Option.bind_some] at e
      simp only [Sem.run_bind, run_zeroT hz, Result.andThen_ok]
      cases hu : P.underlying t with
      | none =>
        simp [underlying, program, runFree_bind, runFree, hu, stuck] at e
      | some d =>
        have fu : runFree P (underlying t) = some d := by
          simp only [underlying, program, runFree_bind]
          simp [runFree, hu, Pure.pure]
        simp only [fu, Option.bind_some] at e
        simp only [run_underlying hu, Result.andThen_ok]
        cases d with
        | struct fields =>
          simp only [runFree_bind] at e ⊢
          cases hpl : runFree P (fields.mapM fun f => do pure (f.offset, ← sizeOf f.type)) with
          | none => rw [hpl] at e; cases e
          | some places =>
            rw [hpl] at e
            simp only [Option.bind_some] at e
            simp only [Sem.run_bind, runFree_ok _ _ w hpl, Result.andThen_ok]
            cases hf : Instr.fill (fun x => places[x]?) z.cells ps.toList with
            | none => rw [hf] at e; simp [runFree, stuck] at e
            | some cells =>
              rw [hf] at e
              simp only [runFree, Pure.pure, Option.some.injEq] at e
              subst e
              obtain ⟨r', k1, k2⟩ := fill_rel _ _ _ _ _ _ hp (AllR.refl_ground hg) hf
              rw [k1]
              exact ⟨.agg r', rfl, .agg k2.1 k2.2⟩
        | array len elem =>
          simp only [runFree_bind] at e ⊢
          cases hpl : runFree P (sizeOf elem) with
          | none => rw [hpl] at e; cases e
          | some size =>
            rw [hpl] at e
            simp only [Option.bind_some] at e
            simp only [Sem.run_bind, runFree_ok _ _ w hpl, Result.andThen_ok]
            cases hf : Instr.fill (fun i => some (i * size, size)) z.cells ps.toList with
            | none => rw [hf] at e; simp [runFree, stuck] at e
            | some cells =>
              rw [hf] at e
              simp only [runFree, Pure.pure, Option.some.injEq] at e
              subst e
              obtain ⟨r', k1, k2⟩ := fill_rel _ _ _ _ _ _ hp (AllR.refl_ground hg) hf
              rw [k1]
              exact ⟨.agg r', rfl, .agg k2.1 k2.2⟩
        | _ => simp [runFree, stuck] at e
    · cases e
  · cases e

def aBuildSlice (P : Program) (h : Hp) (t : TypeId) (len : Nat) (parts : Array (Nat × Value)) : Option (Value × Hp) :=
  match P.underlying t with
  | some (.slice elem) => match sizeT P elem, zeroT P elem with
    | some size, some z => match Nat.ble (len * size) 4096, z.cells.toList.all (gr 5), Nat.ble len 4096 with
      | true, true, true =>
        match Instr.fill (fun i => some (i * size, size)) ((Array.range (len * size)).map ((if len * size = 0 then #[] else z.cells)[· % (if len * size = 0 then #[] else z.cells).size]!)) parts.toList with
        | some cells => match aNew P h elem cells.toList with
          | some (.pointer (some a), h') => some (.slice (some a) len len, h')
          | _ => none
        | none => none
      | _, _, _ => none
    | _, _ => none
  | _ => none

theorem VR.ptr_inv {μ : Mu} {a : Addr} {v' : Value} (r : VR μ (.pointer (some a)) v') : ∃ x, μ a.block = some x ∧ a.spot = none ∧ v' = .pointer (some ⟨x.blk, x.sh + a.off, none⟩) := by
  cases r with
  | ptr h => exact ⟨_, h, rfl, rfl⟩

theorem default_gr : gr 5 (default : Value) = true := rfl

theorem aBuildSlice_ok {μ : Mu} {h h' : Hp} {w : World} (r : WR P μ h w) {t : TypeId} {len : Nat} {ps ps' : Array (Nat × Value)} {v : Value} (hp : PtR μ ps.toList ps'.toList) (e : aBuildSlice P h t len ps = some (v, h')) (f : Fresh μ h h') :
    ValOK P μ h w (Instr.buildSlice t len ps') v h' := by
  unfold aBuildSlice at e
  split at e
  · rename_i elem hu
    split at e
    · rename_i size z hs hz
      split at e
      · rename_i h1 h2 h3
        have hle : len * size ≤ 4096 := by simpa using h1
        generalize hzz : (if len * size = 0 then (#[] : Array Value) else z.cells) = zz at e
        split at e
        · rename_i cells hfill
          split at e
          · rename_i a h2' hnew
            cases e
            have hbase : ((Array.range (len * size)).map (zz[· % zz.size]!)).toList.all (gr 5) = true := by
              rw [List.all_eq_true]
              intro x hx
              simp only [Array.toList_map, List.mem_map] at hx
              obtain ⟨j, _, rfl⟩ := hx
              by_cases hj : j % zz.size < zz.size
              · rw [getElem!_pos zz _ hj]
                have hmem : zz[j % zz.size] ∈ zz.toList := by simp
                have : zz.toList.all (gr 5) = true := by
                  rw [← hzz]; split
                  · rfl
                  · exact h2
                exact List.all_eq_true.1 this _ hmem
              · rw [getElem!_neg zz _ hj]; rfl
            obtain ⟨r', k1, k2⟩ := fill_rel _ _ _ _ _ _ hp (AllR.refl_ground hbase) hfill
            obtain ⟨μ', w', q1, q2, q3, q4⟩ := aNew_ok r k2.toList hnew f
            refine ⟨μ', .slice (some ⟨w.heap.size, 0, none⟩) len len, w', ?_, ?_, q3, q4⟩
            · unfold Instr.buildSlice
              simp only [Sem.run_bind, run_underlying hu, Result.andThen_ok, run_sizeT hs]
              rw [if_neg (by omega)]
              by_cases h0 : len * size = 0
              · rw [if_pos h0] at hzz
                simp only [h0, if_true]
                subst hzz
                rw [h0] at k1
                simp only [Sem.run_bind, Sem.run_pure, Result.andThen_ok]
                rw [k1]
                simp [q1]
              · rw [if_neg h0] at hzz
                subst hzz
                simp only [if_neg h0, Sem.run_bind, run_zeroT hz, Sem.run_pure, Result.andThen_ok]
                rw [k1]
                simp [q1]
            · obtain ⟨x, hb, hsp, hv⟩ := q2.ptr_inv
              obtain ⟨ab, ao, asp⟩ := a
              simp only at hsp hb hv
              subst hsp
              have e0 : (⟨w.heap.size, 0, none⟩ : Addr) = ⟨x.blk, x.sh + ao, none⟩ := by injection hv with hv; injection hv
              rw [e0]
              exact .sl hb (.inl ⟨by have : len ≤ 4096 := by simpa using h3
                                     unfold BIG; omega, rfl⟩)
          · cases e
        · cases e
      · cases e
    · cases e
  · cases e

end
end Go.Ev
