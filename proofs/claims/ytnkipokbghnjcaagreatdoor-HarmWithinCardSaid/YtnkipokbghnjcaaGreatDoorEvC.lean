/-
  The evaluator's single operation: what an operation of the program comes to on the abstract heap (a list of ways), and that the model's goes one of these ways. · The evaluator's single operation, put together. · The evaluator's control: code, calls, rounds, deferred calls, drawn regions.
-/
import Derived.Test.YtnkipokbghnjcaaGreatDoorEvB
import Derived.Orders
/-! The evaluator's single operation: what an operation of the program comes to on the abstract heap (a list of ways), and that the model's goes one of these ways. -/
namespace Go.Ev
open Go

/-- One way on. -/
inductive R1 where
  | val (v : Value) (h : Hp)
  | pan (v : Value) (h : Hp)
  | ent (f : FuncId) (args : List Value) (h : Hp)
  | rnd (l : Nat) (fn : FuncId) (tm : T Value) (ntm : Nat) (assign body : Code) (h : Hp)
  | dfr (d : Deferred) (h : Hp)
  | rcv (h : Hp)

def R1.heap : R1 → Hp
  | .val _ h | .pan _ h | .ent _ _ h | .rnd _ _ _ _ _ _ h | .dfr _ h | .rcv h => h

section
variable (P : Program)

def R1OK (μ : Mu) (h : Hp) (w : World) (s : Sem Next) : R1 → Prop
  | .val v h' => ∃ μ' n v' w', s.run P w = .ok n w' ∧ (n = .value v' ∨ (n = .skip ∧ v' = undef)) ∧ VR μ' v v' ∧ WR P μ' h' w' ∧ Fr μ h w μ' h' w'
  | .pan v h' => h' = h ∧ ∃ v', s.run P w = .halt (.panic v') w ∧ VR μ v v'
  | .ent f args h' => h' = h ∧ (P.funcs[f]?).isSome = true ∧ ∃ args', s.run P w = .ok (.enter f args') w ∧ LR μ args args'.toList
  | .rnd l fn tm ntm assign body h' => h' = h ∧ ∃ x tmps, μ l = some x ∧ x.sh = 0 ∧ s.run P w = .ok (.round x.blk fn tmps assign body) w ∧ TmR μ tm ntm tmps
  | .dfr d h' => h' = h ∧ ∃ d', s.run P w = .ok (.defer d') w ∧ DfR μ d d'
  | .rcv h' => h' = h ∧ s.run P w = .ok .recover w

/-- What an operand stands for. -/
def evalX (ng : Nat) (tm : T Value) : Operand → Option Value
  | .tmp t => match Nat.blt t (2 ^ TD) with
    | true => T.get TD tm t
    | false => none
  | .const v => match gr 6 v with
    | true => some v
    | false => none
  | .global g => match Nat.blt g ng with
    | true => some (.pointer (some ⟨g, 0, none⟩))
    | false => none
  | .func f => some (.func (.func f) #[] #[])

def GlR (μ : Mu) (ng : Nat) : Prop := ∀ g, g < ng → μ g = some ⟨g, 0, 0⟩

variable {P}
theorem evalX_ok {μ : Mu} {ng ntm : Nat} {tm : T Value} {a : Act} (hg : GlR μ ng) (ht : TmR μ tm ntm a.tmps) {x : Operand} {v : Value} (e : evalX ng tm x = some v) : VR μ v (a.eval x) := by
  cases x with
  | tmp t =>
    simp only [evalX] at e
    split at e
    · rename_i hb
      obtain ⟨v', h1, h2⟩ := ht.2.2 t v (by simpa [Nat.blt_eq] using hb) e
      have : a.eval (.tmp t) = v' := by simp [Act.eval, h1]
      rw [this]; exact h2
    · cases e
  | const v0 =>
    simp only [evalX] at e
    split at e
    · rename_i hgr; cases e; exact gr_refl 6 _ hgr
    · cases e
  | global g =>
    simp only [evalX] at e
    split at e
    · rename_i hb
      cases e
      have := VR.ptr (o := 0) (hg g (by simpa [Nat.blt_eq] using hb))
      simpa [Act.eval] using this
    · cases e
  | func f =>
    simp only [evalX, Option.some.injEq] at e
    subst e
    exact .func (.func f) rfl (fun i x y hx _ => by simp at hx) rfl (fun i x y hx _ => by simp at hx)

/-- A list of operands. -/
def evalXs (ρ : Operand → Option Value) : List Operand → Option (List Value)
  | [] => some []
  | x :: xs => match ρ x with
    | some v => match evalXs ρ xs with
      | some vs => some (v :: vs)
      | none => none
    | none => none

def ER (μ : Mu) (ρ : Operand → Option Value) (ρ' : Operand → Value) : Prop := ∀ x v, ρ x = some v → VR μ v (ρ' x)

theorem evalXs_ok {μ : Mu} {ρ : Operand → Option Value} {ρ' : Operand → Value} (h : ER μ ρ ρ') : ∀ (xs : List Operand) (vs : List Value), evalXs ρ xs = some vs → LR μ vs (xs.map ρ')
  | [], vs, e => by simp only [evalXs, Option.some.injEq] at e; subst e; exact LR.nil _
  | x :: xs, vs, e => by
    unfold evalXs at e
    split at e
    · rename_i v hv
      split at e
      · rename_i vs' hvs
        cases e
        exact LR.cons (h x v hv) (evalXs_ok h xs vs' hvs)
      · cases e
    · cases e

/-- The operands all without a block's number: then the model's operation is the very same. -/
def allG (ρ : Operand → Option Value) : List Operand → Bool
  | [] => true
  | x :: xs => match ρ x with
    | some v => gr 6 v && allG ρ xs
    | none => false

def rhoG (ρ : Operand → Option Value) : Operand → Value := fun x => (ρ x).getD undef

theorem allG_ok {μ : Mu} {ρ : Operand → Option Value} {ρ' : Operand → Value} (h : ER μ ρ ρ') : ∀ (xs : List Operand), allG ρ xs = true → ∀ x ∈ xs, rhoG ρ x = ρ' x
  | [], _, x, hx => by simp at hx
  | y :: ys, e, x, hx => by
    unfold allG at e
    split at e
    · rename_i v hv
      simp only [Bool.and_eq_true] at e
      rcases List.mem_cons.1 hx with rfl | hx
      · rw [gr_eq 6 _ _ e.1 (h _ _ hv)]; simp [rhoG, hv]
      · exact allG_ok h ys e.2 x hx
    · cases e

def oneVal (o : Option (Value × Hp)) : Option (List R1) :=
  match o with
  | some (v, h) => some [.val v h]
  | none => none
def sameHeap (h : Hp) (o : Option Value) : Option (List R1) :=
  match o with
  | some v => some [.val v h]
  | none => none
def skipVal (o : Option Hp) : Option (List R1) :=
  match o with
  | some h => some [.val undef h]
  | none => none

/-- A comparison with nil of what is not nil. -/
def aNil (P : Program) (t : TypeId) (x y : Value) : Option Bool :=
  match P.underlying t, x, y with
  | some (.slice _), .slice (some _) _ _, .slice none _ _ => some false
  | some (.slice _), .slice none _ _, .slice (some _) _ _ => some false
  | some (.interface _), .iface _ _, .nilIface => some false
  | some (.pointer _), .pointer (some _), .pointer none => some false
  | some (.map _ _), .map (some _), .map none => some false
  | some (.func _ _ _), .func _ _ _, .nilFunc => some false
  | _, _, _ => none

theorem aNil_ok {μ : Mu} {t : TypeId} {x x' y y' : Value} {b : Bool} (hx : VR μ x x') (hy : VR μ y y') (e : aNil P t x y = some b) (w : World) : (Op.equal t x' y').run P w = .ok b w := by
  have hstep : ∀ (a c : Value), (Op.equal t a c).run P w = (Op.equalIn (9999 + 1) t a c).run P w := fun _ _ => rfl
  rw [hstep]
  generalize 9999 = d
  unfold aNil at e
  split at e <;> first
    | (cases e; done)
    | (rename_i hu; cases e; cases hx; cases hy; simp only [Op.equalIn, Sem.run_bind, run_underlying hu, Result.andThen_ok]; rfl)

theorem TmR.put {μ : Mu} {tm : T Value} {n : Nat} {a : Array Value} (r : TmR μ tm n a) {d : Nat} {v v' : Value} (hv : VR μ v v') (hd : d < n) : TmR μ (T.set TD tm d v) n (a.setIfInBounds d v') := by
  refine ⟨by simp [r.1], r.2.1, fun i u hi hu => ?_⟩
  have hn := r.2.1
  rw [T.get_set _ _ _ _ _ (by omega) hi] at hu
  split at hu
  · rename_i hdi
    cases hu; subst hdi
    exact ⟨v', by simp [r.1, hd], hv⟩
  · rename_i hdi
    obtain ⟨u', h1, h2⟩ := r.2.2 i u hi hu
    exact ⟨u', by rw [Array.getElem?_setIfInBounds_ne hdi]; exact h1, h2⟩

def partsOf (ρ : Operand → Option Value) : List (Nat × Operand) → Option (List (Nat × Value))
  | [] => some []
  | (i, x) :: xs => match ρ x with
    | some v => match partsOf ρ xs with
      | some vs => some ((i, v) :: vs)
      | none => none
    | none => none

theorem partsOf_ok {μ : Mu} {ρ : Operand → Option Value} {ρ' : Operand → Value} (h : ER μ ρ ρ') : ∀ (xs : List (Nat × Operand)) (vs : List (Nat × Value)), partsOf ρ xs = some vs → PtR μ vs (xs.map fun (p : Nat × Operand) => (p.1, ρ' p.2))
  | [], vs, e => by simp only [partsOf, Option.some.injEq] at e; subst e; exact ⟨rfl, fun i x y hx _ => by simp at hx⟩
  | (i, x) :: xs, vs, e => by
    simp only [partsOf] at e
    split at e
    · rename_i v hv
      split at e
      · rename_i vs' hvs
        cases e
        have ih := partsOf_ok h xs vs' hvs
        refine ⟨by simpa using ih.1, fun j y z hy hz => ?_⟩
        cases j with
        | zero => simp at hy hz; subst hy; subst hz; exact ⟨rfl, h x v hv⟩
        | succ j => exact ih.2 j y z (by simpa using hy) (by simpa using hz)
      · cases e
    · cases e

def optOf (ρ : Operand → Option Value) : Option Operand → Option (Option Value)
  | none => some none
  | some x => match ρ x with
    | some v => some (some v)
    | none => none

theorem optOf_ok {μ : Mu} {ρ : Operand → Option Value} {ρ' : Operand → Value} (h : ER μ ρ ρ') {o : Option Operand} {v : Option Value} (e : optOf ρ o = some v) : OptR μ v (o.map ρ') := by
  cases o with
  | none => simp only [optOf, Option.some.injEq] at e; subst e; exact trivial
  | some x =>
    simp only [optOf] at e
    split at e
    · rename_i u hu; cases e; exact h x u hu
    · cases e

def setAll (tm : T Value) (n : Nat) : List Tmp → List Value → Option (T Value)
  | [], [] => some tm
  | d :: ds, v :: vs => match Nat.blt d n with
    | true => setAll (T.set TD tm d v) n ds vs
    | false => none
  | _, _ => none

theorem setAll_ok {μ : Mu} {n : Nat} : ∀ (ds : List Tmp) (vs vs' : List Value) (tm tm2 : T Value) (a : Array Value), TmR μ tm n a → LR μ vs vs' → setAll tm n ds vs = some tm2 →
    ds.length = vs'.length ∧ TmR μ tm2 n ((ds.zip vs').foldl (fun (tmps : Array Value) (p : Tmp × Value) => tmps.setIfInBounds p.1 p.2) a)
  | [], [], vs', tm, tm2, a, r, h, e => by
    simp only [setAll, Option.some.injEq] at e
    subst e
    have : vs' = [] := by have := h.1; simp at this; exact List.eq_nil_of_length_eq_zero this.symm
    subst this
    exact ⟨rfl, r⟩
  | d :: ds, v :: vs, [], tm, tm2, a, r, h, e => by have := h.1; simp at this
  | d :: ds, v :: vs, v' :: vs', tm, tm2, a, r, h, e => by
    simp only [setAll] at e
    split at e
    · rename_i hb
      obtain ⟨h1, h2⟩ := h.uncons
      have := setAll_ok ds vs vs' _ tm2 _ (r.put h1 (by simpa [Nat.blt_eq] using hb)) h2 e
      exact ⟨by simp [this.1], by simpa using this.2⟩
    · cases e
  | [], _ :: _, _, _, _, _, _, _, e => by simp [setAll] at e
  | _ :: _, [], _, _, _, _, _, _, e => by simp [setAll] at e

def Hp.loopAt (h : Hp) (l : Nat) : Option AObj :=
  match h.get l with
  | some (.loop st pend fn tm ntm ps as bd d) => some (.loop st pend fn tm ntm ps as bd d)
  | _ => none

/-- A call of a function value. -/
def aCallV (P : Program) (h : Hp) (f : Value) (args : List Value) : Option (List R1) :=
  match f with
  | .func (.func g) first cap => match P.funcs[g]? with
    | some fn => match fn.body with
      | some _ => match decide (fn.name = "runtime.NumGoroutine") with
        | false => some [.ent g (first.toList ++ args ++ cap.toList) h]
        | true => none
      | none => none
    | none => none
  | .func (.yield l) first _ => match h.get l with
    | some (.loop _ _ fn tm ntm ps as bd _) => match setAll tm ntm ps (first.toList ++ args) with
      | some tm2 => some [.rnd l fn tm2 ntm as bd h]
      | none => none
    | _ => none
  | _ => none

theorem aCallV_ok {μ : Mu} {h : Hp} {w : World} (r : WR P μ h w) {f f' : Value} {args args' : List Value} {L : List R1} (hf : VR μ f f') (ha : LR μ args args') (e : aCallV P h f args = some L) :
    ∃ q ∈ L, R1OK P μ h w (do let d ← Deferred.ofValue f' args'.toArray; invoke d.target d.args) q := by
  unfold aCallV at e
  split at e
  · rename_i g first cap
    split at e
    · rename_i fn hfn
      split at e
      · rename_i bd hbd
        split at e
        · rename_i hnm
          cases e
          refine ⟨_, List.mem_singleton.2 rfl, rfl, by simp [hfn], ?_⟩
          cases hf with
          | func hfr h1 h2 h3 h4 =>
            rename_i first' cap'
            cases hfr
            have hname : ¬ fn.name = "runtime.NumGoroutine" := of_decide_eq_false hnm
            refine ⟨first' ++ args'.toArray ++ cap', ?_, ?_⟩
            · simp [Deferred.ofValue, invoke, callFunc, hfn, hname, hbd]
            · have := (LR.app (LR.app (AllR.toList ⟨h1, h2⟩) ha) (AllR.toList ⟨h3, h4⟩))
              simpa using this
        · cases e
      · cases e
    · cases e
  · rename_i l first cap
    split at e
    · rename_i st pend fn tm ntm ps as bd d hget
      split at e
      · rename_i tm2 hset
        cases e
        cases hf with
        | func hfr h1 h2 h3 h4 =>
          rename_i first' cap'
          cases hfr with
          | yield hx hs =>
            rename_i x
            obtain ⟨lx, o', a1, a2, a3⟩ := r.live l _ hget rfl
            rw [hx] at a1; cases a1
            cases a3 with
            | loop b1 b2 b3 b4 =>
              rename_i xd tmps
              obtain ⟨k1, k2⟩ := setAll_ok ps _ _ tm tm2 _ b2 (LR.app (AllR.toList ⟨h1, h2⟩) ha) hset
              refine ⟨_, List.mem_singleton.2 rfl, rfl, x, _, hx, b1, ?_, k2⟩
              have hgo : (getObj x.blk).run P w = .ok (.loop { state := st, pending := pend, fn := fn, tmps := tmps, params := ps.toArray, assign := as, body := bd, defers := xd.blk }) w := run_getObj a2 (fun _ _ _ h => by cases h)
              have hsz : (first'.toList ++ args').length = ps.length := k1.symm
              simp only [List.length_append, Array.length_toList] at hsz
              simp [Deferred.ofValue, invoke, Instr.yield, Instr.getLoop, hgo, hsz]
              have hz : (ps.toArray.zip (first' ++ args'.toArray)).size = ps.length := by simp; omega
              rw [← hz, ← Array.foldl_toList]
              simp
      · cases e
    · cases e
  · cases e

end
end Go.Ev

/-! The evaluator's single operation, put together. -/
namespace Go.Ev
open Go

section
variable (P : Program)

/-- Where no operand bears a block's number and nothing but the program is asked: the model's own operation. -/
def aFree (ρ : Operand → Option Value) (h : Hp) (o : Oper) : Option (List R1) :=
  match allG ρ o.op.operands.toList with
  | true => match runFree P (execOp (rhoG ρ) o) with
    | some (.value v) => match gr 7 v with
      | true => some [.val v h]
      | false => none
    | some .skip => some [.val undef h]
    | _ => none
  | false => none

def aLen (ts : Array TypeId) (h : Hp) (x : Value) : Option Value :=
  match ts[0]? with
  | some t => match P.underlying t, x with
    | some (.slice _), .slice _ n _ => some (goInt n)
    | some (.map _ _), .map (some b) => match h.mapAt b with
      | some (es, _) => some (goInt es.length)
      | none => none
    | _, _ => none
  | none => none

def aBuiltin (ρ : Operand → Option Value) (h : Hp) (o : Oper) (b : Builtin) (args : Array Operand) (ts : Array TypeId) : Option (List R1) :=
  match b with
  | .len => match args.toList with
    | [x] => match ρ x with
      | some v => match aLen P ts h v with
        | some r => some [.val r h]
        | none => aFree P ρ h o
      | none => none
    | _ => none
  | .append => match args.toList, ts.toList with
    | [x, y], [sT, xT] => match ρ x, ρ y with
      | some v, some u => oneVal (aAppend P h sT xT v u)
      | _, _ => none
    | _, _ => none
  | .recover => match args.toList with
    | [] => some [.rcv h]
    | _ => none
  | _ => aFree P ρ h o

def aop (ρ : Operand → Option Value) (h : Hp) (o : Oper) : Option (List R1) :=
  match o.op with
  | .move x => sameHeap h (ρ x)
  | .assign x => sameHeap h (ρ x)
  | .pick c a b => match ρ c with
    | some (.bool true) => sameHeap h (ρ a)
    | some (.bool false) => sameHeap h (ρ b)
    | _ => none
  | .alloc t => oneVal (aAlloc P h t)
  | .box t x => match ρ x with
    | some v => oneVal (aBox P h t v)
    | none => none
  | .build t ps => match partsOf ρ ps.toList with
    | some qs => sameHeap h (aBuild P t qs.toArray)
    | none => none
  | .buildSlice t n ps => match partsOf ρ ps.toList with
    | some qs => oneVal (aBuildSlice P h t n qs.toArray)
    | none => none
  | .load t a => match ρ a with
    | some v => sameHeap h (aLoad P h t v)
    | none => none
  | .store t a x => match ρ a, ρ x with
    | some v, some u => skipVal (aStore P h t v u)
    | _, _ => none
  | .nilCheck x => match ρ x with
    | some (.pointer (some a)) => some [.val (.pointer (some a)) h]
    | _ => none
  | .binOp op t x y _ => match ρ x, ρ y with
    | some v, some u => match aNil P t v u, op with
      | some b, .eql => some [.val (.bool b) h]
      | some b, .neq => some [.val (.bool (!b)) h]
      | _, _ => aFree P ρ h o
    | _, _ => none
  | .makeInterface t x => match ρ x, P.underlying t with
    | some _, some (.interface _) => none
    | some v, some _ => some [.val (.iface t v) h]
    | _, _ => none
  | .makeFunc (.func f) first cap => match evalXs ρ first.toList, evalXs ρ cap.toList with
    | some a, some c => some [.val (.func (.func f) a.toArray c.toArray) h]
    | _, _ => none
  | .makeMap _ none => oneVal (aMakeMap h)
  | .makeSlice t l c => match ρ l, ρ c with
    | some v, some u => oneVal (aMakeSlice P h t v u)
    | _, _ => none
  | .slice t x lo hi mx => match ρ x, optOf ρ lo, optOf ρ hi, optOf ρ mx with
    | some v, some a, some b, some c => match aSlice P t v a b c with
      | some r => some [.val r h]
      | none => match aSliceEnd P t v a b c with
        | some p => some [.val p.1 h, .val p.2 h]
        | none => aFree P ρ h o
    | _, _, _, _ => none
  | .fieldAddr s x f => match ρ x with
    | some v => sameHeap h (aField P s v f)
    | none => none
  | .indexAddr t x ix => match ρ x, ρ ix with
    | some v, some u => sameHeap h (aIndexAddr P t v u)
    | _, _ => none
  | .lookup t m k ok => match ρ m, ρ k with
    | some v, some u => sameHeap h (aLookup P h t v u ok)
    | _, _ => none
  | .mapUpdate t m k x => match ρ m, ρ k, ρ x with
    | some v, some u, some y => skipVal (aMapUpdate P h t v u y)
    | _, _, _ => none
  | .insert t m k x => match ρ m, ρ k, ρ x with
    | some v, some u, some y => skipVal (aMapUpdate P h t v u y)
    | _, _, _ => none
  | .mapEntry t m k => match ρ m, ρ k with
    | some v, some u => oneVal (aMapEntry P h t v u)
    | _, _ => none
  | .entryStore _ m s x => match ρ m, ρ s, ρ x with
    | some v, some u, some y => skipVal (aEntryStore h v u y)
    | _, _, _ => none
  | .range t x => match ρ x with
    | some v => oneVal (aRange P h t v)
    | none => none
  | .next it false => match ρ it with
    | some v => match aNext h v with
      | some l => some (l.map fun p => .val p.1 p.2)
      | none => none
    | none => none
  | .entry it => match ρ it with
    | some v => sameHeap h (aEntry h v)
    | none => none
  | .extract t i => match ρ t with
    | some (.tuple vs) => match vs[i]? with
      | some v => some [.val v h]
      | none => none
    | _ => none
  | .call c => match c.callee with
    | .builtin b => aBuiltin P ρ h o b c.args c.argTypes
    | .value f => match ρ f, evalXs ρ c.args.toList with
      | some v, some vs => aCallV P h v vs
      | _, _ => none
    | .invoke _ _ => none
  | .defer c => match c.callee with
    | .value f => match ρ f, evalXs ρ c.args.toList with
      | some (.func (.func g) first cap), some vs => some [.dfr { target := .fn (.func g) cap, args := (first.toList ++ vs).toArray } h]
      | _, _ => none
    | _ => none
  | .panic x => match ρ x with
    | some (.iface t v) => some [.pan (.iface t v) h]
    | _ => none
  | .unOp _ _ _ => aFree P ρ h o
  | .convert _ _ _ => aFree P ρ h o
  | .index _ _ _ => aFree P ρ h o
  | .field _ _ _ => aFree P ρ h o
  | .typeAssert _ _ _ _ => aFree P ρ h o
  | _ => none

variable {P}

theorem aFree_ok {μ : Mu} {h : Hp} {w : World} (r : WR P μ h w) {ρ : Operand → Option Value} {ρ' : Operand → Value} (hr : ER μ ρ ρ') {o : Oper} (hs : ∀ cs b, o.op ≠ .select cs b) {L : List R1} (e : aFree P ρ h o = some L) :
    ∃ q ∈ L, R1OK P μ h w (execOp ρ' o) q := by
  unfold aFree at e
  split at e
  · rename_i hg
    have hx : execOp (rhoG ρ) o = execOp ρ' o := execOp_congr o hs fun x hx => allG_ok hr _ hg x (by simpa using hx)
    rw [hx] at e
    split at e
    · rename_i v hv
      split at e
      · rename_i hgr
        cases e
        exact ⟨_, List.mem_singleton.2 rfl, μ, _, v, w, runFree_ok _ _ w hv, .inl rfl, gr_refl 7 _ hgr, r, Fr.refl _ _ _⟩
      · cases e
    · rename_i hv
      cases e
      exact ⟨_, List.mem_singleton.2 rfl, μ, _, undef, w, runFree_ok _ _ w hv, .inr ⟨rfl, rfl⟩, gr_refl 2 _ rfl, r, Fr.refl _ _ _⟩
    · cases e
  · cases e

/-- An operation that gives a value. -/
theorem val_ok {μ : Mu} {h h' : Hp} {w : World} {v : Value} {s : Sem Next} {sv : Sem Value} (hs : s = (do pure (.value (← sv)))) (hv : ValOK P μ h w sv v h') : R1OK P μ h w s (.val v h') := by
  obtain ⟨μ', v', w', a, b, c, d⟩ := hv
  exact ⟨μ', .value v', v', w', by rw [hs]; simp [a], .inl rfl, b, c, d⟩

theorem valSame_ok {μ : Mu} {h : Hp} {w : World} (r : WR P μ h w) {v : Value} {s : Sem Next} {sv : Sem Value} (hs : s = (do pure (.value (← sv)))) (hv : ∃ v', sv.run P w = .ok v' w ∧ VR μ v v') : R1OK P μ h w s (.val v h) := by
  obtain ⟨v', a, b⟩ := hv
  exact val_ok hs ⟨μ, v', w, a, b, r, Fr.refl _ _ _⟩

theorem skip_ok {μ : Mu} {h h' : Hp} {w : World} {s : Sem Next} {su : Sem Unit} (hs : s = (do su; pure .skip)) (hv : ∃ w', su.run P w = .ok () w' ∧ WR P μ h' w' ∧ Fr μ h w μ h' w') : R1OK P μ h w s (.val undef h') := by
  obtain ⟨w', a, b, c⟩ := hv
  exact ⟨μ, .skip, undef, w', by rw [hs]; simp [a], .inr ⟨rfl, rfl⟩, gr_refl 2 _ rfl, b, c⟩

theorem sameHeap_some {h : Hp} {o : Option Value} {L : List R1} (e : sameHeap h o = some L) : ∃ v, o = some v ∧ L = [.val v h] := by
  unfold sameHeap at e
  split at e
  · cases e; exact ⟨_, rfl, rfl⟩
  · cases e
theorem oneVal_some {o : Option (Value × Hp)} {L : List R1} (e : oneVal o = some L) : ∃ v h, o = some (v, h) ∧ L = [.val v h] := by
  unfold oneVal at e
  split at e
  · cases e; exact ⟨_, _, rfl, rfl⟩
  · cases e
theorem skipVal_some {o : Option Hp} {L : List R1} (e : skipVal o = some L) : ∃ h, o = some h ∧ L = [.val undef h] := by
  unfold skipVal at e
  split at e
  · cases e; exact ⟨_, rfl, rfl⟩
  · cases e

theorem aLen_ok {μ : Mu} {h : Hp} {w : World} (r : WR P μ h w) {ts : Array TypeId} {ty : TypeId} {x x' v : Value} (hx : VR μ x x') (e : aLen P ts h x = some v) :
    (Builtin.len_ ts ty #[x']).run P w = .ok v w ∧ VR μ v v := by
  unfold aLen at e
  split at e
  · rename_i t ht
    split at e
    · rename_i el b n c hu
      cases e
      cases hx with
      | sl0 => exact ⟨by unfold Builtin.len_; simp [ht, run_underlying hu], .int _ _⟩
      | sl hm hc => exact ⟨by unfold Builtin.len_; simp [ht, run_underlying hu], .int _ _⟩
    · rename_i kt et b hu
      split at e
      · rename_i es clock hmap
        cases e
        obtain ⟨l, hx1, hx2, rfl⟩ := hx.map_inv
        obtain ⟨hs, es', a2, he⟩ := r.mapAt hmap hx1
        have hgo : (getObj l.blk).run P w = .ok (.map es' clock) w := run_getObj a2 (fun _ _ _ h => by cases h)
        have hl : es'.size = es.length := by simpa using he.1.symm
        exact ⟨by unfold Builtin.len_; simp [ht, run_underlying hu, hgo, hl], .int _ _⟩
      · cases e
    · cases e
  · cases e

theorem op_cases {o : Oper} {op : Op} (ho : o.op = op) (ρ' : Operand → Value) : execOp ρ' o = execOp ρ' { o with op := op } := by rw [← ho]

theorem map_toList {α β : Type} (a : Array α) (f : α → β) : (a.toList.map f).toArray = a.map f := by apply Array.ext'; simp

theorem one_mem {q : R1} {p : R1 → Prop} (h : p q) : ∃ q' ∈ [q], p q' := ⟨q, List.mem_singleton.2 rfl, h⟩

theorem aBuiltin_ok {μ : Mu} {h : Hp} {w : World} (r : WR P μ h w) {ρ : Operand → Option Value} {ρ' : Operand → Value} (hr : ER μ ρ ρ') {o : Oper} {b : Builtin} {args : Array Operand} {ts : Array TypeId} {L : List R1}
    (ho : o.op = .call ⟨.builtin b, args, ts⟩) (e : aBuiltin P ρ h o b args ts = some L) (f : ∀ q ∈ L, Fresh μ h q.heap) : ∃ q ∈ L, R1OK P μ h w (execOp ρ' o) q := by
  have hsel : ∀ cs b, o.op ≠ .select cs b := fun cs b hh => by rw [ho] at hh; cases hh
  unfold aBuiltin at e
  split at e
  · split at e
    · rename_i x hx
      split at e
      · rename_i v hv
        split at e
        · rename_i u hu
          cases e
          obtain ⟨k1, k2⟩ := aLen_ok r (ty := o.type) (hr x v hv) hu
          refine one_mem ?_
          have ha : args = #[x] := by apply Array.toList_inj.1; rw [hx]
          refine ⟨μ, .value u, u, w, ?_, .inl rfl, k2, r, Fr.refl _ _ _⟩
          simp only [execOp, ho, resolve, ha, List.map_toArray, List.map_cons, List.map_nil]
          simp [invoke, builtin, k1]
        · exact aFree_ok r hr hsel e
      · cases e
    · cases e
  · split at e
    · rename_i x y sT xT hx ht
      split at e
      · rename_i v u hv hu
        obtain ⟨rv, h', ha, rfl⟩ := oneVal_some e
        obtain ⟨μ', v', w', k1, k2, k3, k4⟩ := aAppend_ok r (ty := o.type) (hr x v hv) (hr y u hu) ha (f _ (List.mem_singleton.2 rfl))
        refine one_mem ⟨μ', .value v', v', w', ?_, .inl rfl, k2, k3, k4⟩
        have hag : args = #[x, y] := by apply Array.toList_inj.1; rw [hx]
        have hat : ts = #[sT, xT] := by apply Array.toList_inj.1; rw [ht]
        simp only [execOp, ho, resolve, hag, hat, List.map_toArray, List.map_cons, List.map_nil]
        simp [invoke, builtin, k1]
      · cases e
    · cases e
  · split at e
    · rename_i hx
      cases e
      refine one_mem ⟨rfl, ?_⟩
      simp only [execOp, ho, resolve]
      simp [invoke, builtin]
    · cases e
  · exact aFree_ok r hr hsel e

set_option maxHeartbeats 1000000 in
theorem aop_ok {μ : Mu} {h : Hp} {w : World} (r : WR P μ h w) {ρ : Operand → Option Value} {ρ' : Operand → Value} (hr : ER μ ρ ρ') {o : Oper} {L : List R1} (e : aop P ρ h o = some L) (f : ∀ q ∈ L, Fresh μ h q.heap) :
    ∃ q ∈ L, R1OK P μ h w (execOp ρ' o) q := by
  have fr : ∀ (o : Oper), (∀ cs b, o.op ≠ .select cs b) → aFree P ρ h o = some L → ∃ q ∈ L, R1OK P μ h w (execOp ρ' o) q := fun o ho e => aFree_ok r hr ho e
  obtain ⟨dst, op, type, pos, after, guard⟩ := o
  cases op <;> simp only [aop] at e
  case move x =>
    obtain ⟨v, hv, rfl⟩ := sameHeap_some e
    exact one_mem (valSame_ok r (sv := pure (ρ' x)) (by simp [execOp]) ⟨_, rfl, hr x v hv⟩)
  case assign x =>
    obtain ⟨v, hv, rfl⟩ := sameHeap_some e
    exact one_mem (valSame_ok r (sv := pure (ρ' x)) (by simp [execOp]) ⟨_, rfl, hr x v hv⟩)
  case pick c a b =>
    split at e
    · rename_i hc
      have hc' := (hr c _ hc).bool_inv
      obtain ⟨v, hv, rfl⟩ := sameHeap_some e
      exact one_mem (valSame_ok r (sv := pure (ρ' a)) (by simp [execOp, hc', asBool]) ⟨_, rfl, hr a v hv⟩)
    · rename_i hc
      have hc' := (hr c _ hc).bool_inv
      obtain ⟨v, hv, rfl⟩ := sameHeap_some e
      exact one_mem (valSame_ok r (sv := pure (ρ' b)) (by simp [execOp, hc', asBool]) ⟨_, rfl, hr b v hv⟩)
    · cases e
  case alloc t =>
    obtain ⟨v, h', hv, rfl⟩ := oneVal_some e
    exact one_mem (val_ok (sv := Instr.alloc t true (.tuple #[])) rfl (aAlloc_ok r hv (f _ (List.mem_singleton.2 rfl))))
  case box t x =>
    split at e
    · rename_i u hu
      obtain ⟨v, h', hv, rfl⟩ := oneVal_some e
      exact one_mem (val_ok (sv := Instr.box t (ρ' x)) rfl (aBox_ok r (hr x u hu) hv (f _ (List.mem_singleton.2 rfl))))
    · cases e
  case build t ps =>
    split at e
    · rename_i qs hq
      obtain ⟨v, hv, rfl⟩ := sameHeap_some e
      refine one_mem (valSame_ok r (sv := Instr.build t (ps.map fun (i, x) => (i, ρ' x))) rfl (aBuild_ok (ps := qs.toArray) ?_ hv w))
      have := partsOf_ok hr _ _ hq
      simpa using this
    · cases e
  case buildSlice t n ps =>
    split at e
    · rename_i qs hq
      obtain ⟨v, h', hv, rfl⟩ := oneVal_some e
      refine one_mem (val_ok (sv := Instr.buildSlice t n (ps.map fun (i, x) => (i, ρ' x))) rfl (aBuildSlice_ok (ps := qs.toArray) r ?_ hv (f _ (List.mem_singleton.2 rfl))))
      have := partsOf_ok hr _ _ hq
      simpa using this
    · cases e
  case load t a =>
    split at e
    · rename_i u hu
      obtain ⟨v, hv, rfl⟩ := sameHeap_some e
      exact one_mem (valSame_ok r (sv := Instr.loadAt t (ρ' a)) rfl (aLoad_ok r (hr a u hu) hv))
    · cases e
  case store t a x =>
    split at e
    · rename_i v u hv hu
      obtain ⟨h', hh, rfl⟩ := skipVal_some e
      exact one_mem (skip_ok (su := Instr.storeAt t (ρ' a) (ρ' x)) rfl (aStore_ok r (hr a v hv) (hr x u hu) hh))
    · cases e
  case nilCheck x =>
    split at e
    · rename_i a ha
      cases e
      have hv := hr x _ ha
      obtain ⟨l, h1, h2, h3⟩ := hv.ptr_inv
      refine one_mem ⟨μ, .value (ρ' x), ρ' x, w, ?_, .inl rfl, hv, r, Fr.refl _ _ _⟩
      simp only [execOp, h3]; rfl
    · cases e
  case binOp op t x y yt =>
    split at e
    · rename_i v u hv hu
      have hx := hr x _ hv
      have hy := hr y _ hu
      have hguard : ∀ b, aNil P t v u = some b → ∀ op, (eqGuard op t x y (ρ' x) (ρ' y)).run P w = .ok () w := by
        intro b hb op
        revert hx hy
        generalize ρ' x = X
        generalize ρ' y = Y
        intro hx hy
        unfold eqGuard
        unfold aNil at hb
        split at hb <;> first
          | (cases hb; done)
          | (cases hx; cases hy; cases op <;> rfl)
      have hdisp : ∀ b, aNil P t v u = some b → (binOp .eql t (ρ' x) (ρ' y)).run P w = .ok (.bool b) w ∧ (binOp .neq t (ρ' x) (ρ' y)).run P w = .ok (.bool (!b)) w := by
        intro b hb
        have he := aNil_ok hx hy hb w
        revert hx hy he
        generalize ρ' x = X
        generalize ρ' y = Y
        intro hx hy he
        unfold aNil at hb
        split at hb <;> first
          | (cases hb; done)
          | (cases hx; cases hy; simp only [binOp]; simp [he])
      split at e
      · rename_i b hb
        cases e
        refine one_mem ⟨μ, .value (.bool b), _, w, ?_, .inl rfl, .bool b, r, Fr.refl _ _ _⟩
        simp [execOp, hguard b hb, (hdisp b hb).1]
      · rename_i b hb
        cases e
        refine one_mem ⟨μ, .value (.bool (!b)), _, w, ?_, .inl rfl, .bool _, r, Fr.refl _ _ _⟩
        simp [execOp, hguard b hb, (hdisp b hb).2]
      · exact fr _ (fun _ _ h => by cases h) e
    · cases e
  case makeInterface t x =>
    split at e
    · cases e
    · rename_i v d hne hv hu
      cases e
      refine one_mem (valSame_ok r (sv := Instr.makeInterface t (ρ' x)) rfl ⟨.iface t (ρ' x), ?_, .iface (hr x v hv)⟩)
      unfold Instr.makeInterface
      simp only [Sem.run_bind, run_underlying hu, Result.andThen_ok]
      cases d <;> first | rfl | exact absurd rfl (hne _ _ hv)
    · cases e
  case makeFunc fn first cap =>
    cases fn with
    | func g =>
      simp only at e
      split at e
      · rename_i a c ha hc
        cases e
        refine one_mem (valSame_ok r (sv := Instr.makeFunc (.func g) (first.map ρ') (cap.map ρ')) rfl ⟨_, rfl, ?_⟩)
        have h1 := (evalXs_ok hr _ _ ha).toArray
        have h2 := (evalXs_ok hr _ _ hc).toArray
        have e1 : (first.toList.map ρ').toArray = first.map ρ' := map_toList _ _
        have e2 : (cap.toList.map ρ').toArray = cap.map ρ' := map_toList _ _
        rw [e1] at h1; rw [e2] at h2
        exact .func (.func g) h1.1 h1.2 h2.1 h2.2
      · cases e
    | _ => simp at e
  case makeMap t rs =>
    cases rs with
    | none =>
      simp only at e
      obtain ⟨v, h', hv, rfl⟩ := oneVal_some e
      exact one_mem (val_ok (sv := Instr.makeMap t none) rfl (aMakeMap_ok r hv (f _ (List.mem_singleton.2 rfl))))
    | some _ => simp at e
  case makeSlice t l c =>
    split at e
    · rename_i v u hv hu
      obtain ⟨v', h', hv', rfl⟩ := oneVal_some e
      exact one_mem (val_ok (sv := Instr.makeSlice t (ρ' l) (ρ' c)) rfl (aMakeSlice_ok r (hr l v hv) (hr c u hu) hv' (f _ (List.mem_singleton.2 rfl))))
    · cases e
  case slice t x lo hi mx =>
    split at e
    · rename_i v a b c hv ha hb hc
      split at e
      · rename_i rv hrv
        cases e
        exact one_mem (valSame_ok r (sv := Instr.sliceAt t (ρ' x) (lo.map ρ') (hi.map ρ') (mx.map ρ')) rfl (aSlice_ok (hr x v hv) (optOf_ok hr ha) (optOf_ok hr hb) (optOf_ok hr hc) hrv w))
      · split at e
        · rename_i p hp
          cases e
          obtain ⟨v', h1, h2⟩ := aSliceEnd_ok (hr x v hv) (optOf_ok hr ha) (optOf_ok hr hb) (optOf_ok hr hc) hp w
          rcases h2 with h2 | h2
          · exact ⟨_, List.mem_cons_self, valSame_ok r (sv := Instr.sliceAt t (ρ' x) (lo.map ρ') (hi.map ρ') (mx.map ρ')) rfl ⟨v', h1, h2⟩⟩
          · exact ⟨_, List.mem_cons_of_mem _ List.mem_cons_self, valSame_ok r (sv := Instr.sliceAt t (ρ' x) (lo.map ρ') (hi.map ρ') (mx.map ρ')) rfl ⟨v', h1, h2⟩⟩
        · exact fr _ (fun _ _ h => by cases h) e
    · cases e
  case fieldAddr s x fi =>
    split at e
    · rename_i u hu
      obtain ⟨v, hv, rfl⟩ := sameHeap_some e
      exact one_mem (valSame_ok r (sv := Instr.fieldAt s (ρ' x) fi) rfl (aField_ok (hr x u hu) hv w))
    · cases e
  case indexAddr t x ix =>
    split at e
    · rename_i v u hv hu
      obtain ⟨y, hy, rfl⟩ := sameHeap_some e
      exact one_mem (valSame_ok r (sv := Instr.indexAt t (ρ' x) (ρ' ix)) rfl (aIndexAddr_ok (hr x v hv) (hr ix u hu) hy w))
    · cases e
  case lookup t m k ok =>
    split at e
    · rename_i v u hv hu
      obtain ⟨y, hy, rfl⟩ := sameHeap_some e
      exact one_mem (valSame_ok r (sv := Instr.lookup t (ρ' m) (ρ' k) ok) rfl (aLookup_ok r (hr m v hv) (hr k u hu) hy))
    · cases e
  case mapUpdate t m k x =>
    split at e
    · rename_i v u y hv hu hy
      obtain ⟨h', hh, rfl⟩ := skipVal_some e
      exact one_mem (skip_ok (su := Instr.mapUpdate t (ρ' m) (ρ' k) (ρ' x)) rfl (aMapUpdate_ok r (hr m v hv) (hr k u hu) (hr x y hy) hh))
    · cases e
  case insert t m k x =>
    split at e
    · rename_i v u y hv hu hy
      obtain ⟨h', hh, rfl⟩ := skipVal_some e
      exact one_mem (skip_ok (su := Instr.mapUpdate t (ρ' m) (ρ' k) (ρ' x)) rfl (aMapUpdate_ok r (hr m v hv) (hr k u hu) (hr x y hy) hh))
    · cases e
  case mapEntry t m k =>
    split at e
    · rename_i v u hv hu
      obtain ⟨v', h', hv', rfl⟩ := oneVal_some e
      obtain ⟨v2, w2, k1, k2, k3, k4⟩ := aMapEntry_ok r (hr m v hv) (hr k u hu) hv'
      exact one_mem (val_ok (sv := Instr.mapEntry t (ρ' m) (ρ' k)) rfl ⟨μ, v2, w2, k1, k2, k3, k4⟩)
    · cases e
  case entryStore t m s x =>
    split at e
    · rename_i v u y hv hu hy
      obtain ⟨h', hh, rfl⟩ := skipVal_some e
      exact one_mem (skip_ok (su := Instr.entryStore t (ρ' m) (ρ' s) (ρ' x)) rfl (aEntryStore_ok r (hr m v hv) (hr s u hu) (hr x y hy) hh))
    · cases e
  case range t x =>
    split at e
    · rename_i u hu
      obtain ⟨v, h', hv, rfl⟩ := oneVal_some e
      exact one_mem (val_ok (sv := Instr.range t (ρ' x)) rfl (aRange_ok r (hr x u hu) hv (f _ (List.mem_singleton.2 rfl))))
    · cases e
  case next it isS =>
    cases isS with
    | true => simp at e
    | false =>
      simp only at e
      split at e
      · rename_i u hu
        split at e
        · rename_i l hl
          cases e
          obtain ⟨v, h', hm, v', w', k1, k2, k3, k4⟩ := aNext_ok r (ty := type) (hr it u hu) hl
          exact ⟨.val v h', List.mem_map.2 ⟨_, hm, rfl⟩, val_ok (sv := Instr.next (ρ' it) false type) rfl ⟨μ, v', w', k1, k2, k3, k4⟩⟩
        · cases e
      · cases e
  case entry it =>
    split at e
    · rename_i u hu
      obtain ⟨y, hy, rfl⟩ := sameHeap_some e
      exact one_mem (valSame_ok r (sv := Instr.entry (ρ' it)) rfl (aEntry_ok r (hr it u hu) hy))
    · cases e
  case extract t i =>
    split at e
    · rename_i vs hvs
      split at e
      · rename_i v hv
        cases e
        have ht := hr t _ hvs
        cases htt : ρ' t with
        | tuple vs' =>
          rw [htt] at ht
          cases ht with
          | tuple h1 h2 =>
            obtain ⟨y, hy, hvy⟩ := AllR.have ⟨h1, h2⟩ hv
            exact one_mem (valSame_ok r (sv := Instr.extract (ρ' t) i) rfl ⟨y, by unfold Instr.extract; simp [htt, hy], hvy⟩)
        | _ => rw [htt] at ht; cases ht
      · cases e
    · cases e
  case call c =>
    obtain ⟨callee, args, ts⟩ := c
    cases callee with
    | builtin b => simp only at e; exact aBuiltin_ok r hr rfl e f
    | value g =>
      simp only at e
      split at e
      · rename_i v vs hv hvs
        have := aCallV_ok r (hr g v hv) (evalXs_ok hr _ _ hvs) e
        obtain ⟨q, hq, hok⟩ := this
        refine ⟨q, hq, ?_⟩
        have e1 : (args.toList.map ρ').toArray = args.map ρ' := map_toList _ _
        rw [e1] at hok
        exact hok
      · cases e
    | invoke _ _ => simp at e
  case defer c =>
    obtain ⟨callee, args, ts⟩ := c
    cases callee with
    | value g =>
      simp only at e
      split at e
      · rename_i gf first cap vs hv hvs
        cases e
        have hg := hr g _ hv
        have ha := (evalXs_ok hr _ _ hvs)
        cases hgg : ρ' g with
        | func fn' first' cap' =>
          rw [hgg] at hg
          cases hg with
          | func hf h1 h2 h3 h4 =>
            cases hf
            refine one_mem ⟨rfl, { target := .fn (.func gf) cap', args := first' ++ args.map ρ' }, ?_, ⟨.func gf, h3, h4⟩, ?_⟩
            · simp only [execOp, resolve, hgg, Deferred.ofValue]; rfl
            · have := (LR.app (AllR.toList ⟨h1, h2⟩) ha).toArray
              have e2 : (first'.toList ++ args.toList.map ρ').toArray = first' ++ args.map ρ' := by apply Array.ext'; simp
              rw [e2] at this; exact this
        | _ => rw [hgg] at hg; cases hg
      · cases e
    | _ => simp at e
  case panic x =>
    split at e
    · rename_i t v hv
      cases e
      have hx := hr x _ hv
      cases hxx : ρ' x with
      | iface t' v' =>
        rw [hxx] at hx
        refine one_mem ⟨rfl, .iface t' v', ?_, hx⟩
        simp [execOp, hxx, Instr.panic]
      | _ => rw [hxx] at hx; cases hx
    · cases e
  all_goals first
    | (cases e; done)
    | exact fr _ (fun _ _ h => by cases h) e

end
end Go.Ev

/-! The evaluator's control: code, calls, rounds, deferred calls, drawn regions. -/
namespace Go.Ev
open Go

structure Kd where
  fn : FuncId
  dfr : Bool
  rnd : Option Nat

structure St where
  tm : T Value
  ntm : Nat
  df : List Deferred
  hp : Hp
  md : FrameMode

inductive Ex where
  | normal
  | exit (id : Nat)
  | ret
  | panic (chain : List PanicEntry)

inductive Tk where
  | code (k : Kd) (c : Code) (s : St)
  | call (f : FuncId) (args : List Value) (dfr : Bool) (h : Hp) (md : FrameMode)
  | round (l : Nat) (fn : FuncId) (tm : T Value) (ntm : Nat) (assign body : Code) (h : Hp)
  | loop (k : Kd) (c : Code) (s : St)

inductive Res where
  | out (x : Ex) (s : St)
  | ret (v : Value) (h : Hp) (md : FrameMode)
  | pan (chain : List PanicEntry) (h : Hp) (md : FrameMode)

abbrev Out := Option (List Res)

def bindR {α : Type} (f : α → Out) : List α → Out
  | [] => some []
  | x :: xs => match xs with
    | [] => f x
    | _ :: _ => match f x with
      | some l => match bindR f xs with
        | some m => some (l ++ m)
        | none => none
      | none => none

def bindO (o : Out) (f : Res → Out) : Out :=
  match o with
  | some l => bindR f l
  | none => none

def putO (s : St) (d : Option Tmp) (v : Value) : Option St :=
  match d with
  | none => some s
  | some d => match Nat.blt d s.ntm with
    | true => some { s with tm := T.set TD s.tm d v }
    | false => none

def wantedA (ops : Array Oper) (tm : T Value) (o : Oper) : Option Bool :=
  match o.guard with
  | none => some true
  | some (j, want) => match ops[j]? with
    | some g => match g.dst with
      | some d => match Nat.blt d (2 ^ TD) with
        | true => match T.get TD tm d with
          | some (.bool b) => some (b == want)
          | some (.tuple _) => some false
          | _ => none
        | false => none
      | none => some false
    | none => some false

/-! ### Calls -/
def minN (a b : Nat) : Nat := match Nat.blt a b with
  | true => a
  | false => b

/-- Nothing but a value comes out of it. -/
def still (h0 : Hp) (v : Value) (h : Hp) : Bool := gr 7 v && Nat.ble h0.nx h.lw

def gc1 (h0 : Hp) : Res → Res
  | .ret v h md => match still h0 v h with
    | true => .ret v h0 md
    | false => .ret v (h.setLw (minN h0.lw h.lw)) md
  | .pan ch h md => .pan ch (h.setLw (minN h0.lw h.lw)) md
  | .out x s => .out x { s with hp := s.hp.setLw (minN h0.lw s.hp.lw) }

def same1 (h0 : Hp) (r q : Res) : Bool :=
  match r, q with
  | .ret v h _, .ret u g _ => still h0 v h && still h0 u g && veq 8 v u
  | _, _ => false

def dedup (h0 : Hp) : List Res → List Res
  | [] => []
  | x :: xs => match xs.any (same1 h0 x) with
    | true => dedup h0 xs
    | false => x :: dedup h0 xs

abbrev Sums := FuncId → List Value → Hp → Out

section
variable (P : Program) (ng : Nat) (sm : Sums) (rec : Tk → Out)

def doCall (f : FuncId) (args : List Value) (h : Hp) : Out :=
  match sm f args h with
  | some L => some L
  | none => match rec (.call f args false (h.setLw BIG) .run) with
    | some L => some ((dedup h L).map (gc1 h))
    | none => none

/-- Behind an operation that gave a value. -/
def putR (s : St) (d : Option Tmp) (v : Value) : Out :=
  match putO s d v with
  | some s => some [.out .normal s]
  | none => none

def afterCall (s : St) (d : Option Tmp) : Res → Out
  | .ret v h _ => putR { s with hp := h } d v
  | .pan ch h _ => some [.out (.panic ch) { s with hp := h }]
  | .out _ _ => none

def afterRound (s : St) (d : Option Tmp) : Res → Out
  | .ret v h _ => putR { s with hp := h } d v
  | _ => none

def recoverA (k : Kd) (s : St) (d : Option Tmp) : Out :=
  match k.rnd with
  | none => match k.dfr with
    | true => match s.md with
      | .panicking ({ v, recovered := false, goexit := false } :: older) => putR { s with md := .panicking ({ v, recovered := true } :: older) } d v
      | _ => putR s d .nilIface
    | false => putR s d .nilIface
  | some _ => none

def after1 (k : Kd) (s : St) (d : Option Tmp) : R1 → Out
  | .val v h => putR { s with hp := h } d v
  | .pan v h => some [.out (.panic [{ v, recovered := false }]) { s with hp := h }]
  | .ent f args h => bindO (doCall sm rec f args h) (afterCall s d)
  | .rnd l fn tm ntm as bd h => bindO (rec (.round l fn tm ntm as bd h)) (afterRound s d)
  | .dfr df h => match k.rnd with
    | none => putR { s with hp := h, df := df :: s.df } d undef
    | some _ => none
  | .rcv h => recoverA k { s with hp := h } d

def stepOp (k : Kd) (ops : Array Oper) (o : Oper) (s : St) : Out :=
  match wantedA ops s.tm o with
  | some false => putR s o.dst undef
  | some true => match aop P (evalX ng s.tm) s.hp o with
    | some L => bindR (after1 sm rec k s o.dst) L
    | none => none
  | none => none

def runOps (k : Kd) (ops : Array Oper) : List Oper → St → Out
  | [], s => some [.out .normal s]
  | o :: os, s => bindO (stepOp P ng sm rec k ops o s) fun
    | .out .normal s => runOps k ops os s
    | .out x s => some [.out x s]
    | _ => none

/-! ### Drawn regions -/
structure DRec where
  j : Nat
  dst : Option Tmp
  lk : Nat

structure DNp where
  j : Nat
  mask : Nat
  lo : Nat
  hi : Nat

structure DS where
  s : St
  nx0 : Nat
  masks : T Nat
  recs : List DRec
  np : List DNp
  done : Nat
  must : Nat

def lkMask : List Tmp → Nat
  | [] => 0
  | t :: ts => Nat.lor (2 ^ t) (lkMask ts)

/-- The operations that must be behind this one. -/
def depMask (masks : T Nat) : List Edge → Option Nat
  | [] => some 0
  | e :: es => match Region.binds .any e with
    | true => match Nat.blt e.on (2 ^ TD) with
      | true => match T.get TD masks e.on with
        | some m => match depMask masks es with
          | some r => some (Nat.lor m r)
          | none => none
        | none => none
      | false => none
    | false => depMask masks es

/-- A call of code, or what may have more than one outcome. -/
def late (o : Oper) : Bool :=
  match o.op with
  | .call c => match c.callee with
    | .builtin _ => false
    | _ => true
  | .next .. => true
  | _ => false

/-- An order of the operations: first those that come to no call. -/
def early : Nat → List (Nat × Oper) → List (Nat × Oper)
  | _, [] => []
  | done, (i, o) :: os => match !late o && o.after.toList.all (fun e => !Region.binds .any e || Nat.testBit done e.on) with
    | true => (i, o) :: early (Nat.lor done (2 ^ i)) os
    | false => early done os

def enum : Nat → List Oper → List (Nat × Oper)
  | _, [] => []
  | i, o :: os => (i, o) :: enum (i + 1) os

def bitsOf : List (Nat × Oper) → Nat
  | [] => 0
  | (i, _) :: os => Nat.lor (2 ^ i) (bitsOf os)

/-- What comes to no call, as soon as it is ready; else the next one. -/
def order2 : Nat → Nat → List (Nat × Oper) → List (Nat × Oper)
  | 0, _, l => l
  | n + 1, done, l =>
    let e := early done l
    let m := bitsOf e
    e ++ match l.filter fun p => !Nat.testBit m p.1 with
      | [] => []
      | p :: r => p :: order2 n (Nat.lor (Nat.lor done m) (2 ^ p.1)) r

def order (l : List (Nat × Oper)) : List (Nat × Oper) := order2 l.length 0 l

def apart1 (mask : Nat) (dst : Option Tmp) (lk : Nat) (r : DRec) : Bool :=
  (match r.dst, dst with
   | some a, some b => !Nat.beq a b
   | _, _ => true) &&
  match Nat.testBit mask r.j with
  | true => true
  | false =>
    (match r.dst with
     | some a => !Nat.testBit lk a
     | none => true) &&
    (match dst with
     | some b => !Nat.testBit r.lk b
     | none => true)

def killR (h : Hp) (lo : Nat) : Nat → Hp
  | 0 => h
  | n + 1 => killR (h.put lo .dead) (lo + 1) n

/-- The heap as the operation may see it, whatever ran before: without the news of those that need not. -/
def view (mask : Nat) : List DNp → Hp → Hp
  | [], h => h
  | p :: ps, h => match Nat.testBit mask p.j with
    | true => view mask ps h
    | false => view mask ps (killR h p.lo (p.hi - p.lo))

def allSeen (mask : Nat) (np : List DNp) : Bool := np.all fun p => Nat.testBit mask p.j

/-- What a change from 'lo' on may do to an operation that need not have run: nothing. -/
def apart2 (np : List DNp) (mask lo : Nat) (p : DNp) : Bool :=
  match Nat.testBit mask p.j with
  | true => true
  | false => np.all fun q => !Nat.testBit p.mask q.j || Nat.ble q.hi lo

/-- The blocks that were hidden, back. -/
def backR (h : Hp) (lo : Nat) : Nat → Hp → Hp
  | 0, h' => h'
  | n + 1, h' => backR h (lo + 1) n (h'.put lo ((h.get lo).getD .dead))

def backA (mask : Nat) (h : Hp) : List DNp → Hp → Hp
  | [], h' => h'
  | p :: ps, h' => match Nat.testBit mask p.j with
    | true => backA mask h ps h'
    | false => backA mask h ps (backR h p.lo (p.hi - p.lo) h')

def evalL (lk : Nat) (tm : T Value) (x : Operand) : Option Value :=
  match x with
  | .tmp t => match Nat.testBit lk t with
    | true => evalX ng tm x
    | false => none
  | x => evalX ng tm x

def emptyHp : Hp := { t := .e, nx := 0, lw := BIG }

/-- What needs no heap. -/
def pureOp (ρ : Operand → Option Value) (o : Oper) : Option Value :=
  match aop P ρ emptyHp o with
  | some [.val v h] => match h.nx with
    | 0 => some v
    | _ => none
  | _ => none

def valRes : List Res → Option (List (Value × Hp))
  | [] => some []
  | .ret v h _ :: rs => match valRes rs with
    | some l => some ((v, h) :: l)
    | none => none
  | _ => none

def valOne : R1 → Option (List (Value × Hp))
  | .val v h => some [(v, h)]
  | .ent f args h => match doCall sm rec f args h with
    | some L => valRes L
    | none => none
  | .rnd l fn tm ntm as bd h => match rec (.round l fn tm ntm as bd h) with
    | some L => valRes L
    | none => none
  | _ => none

def valAll : List R1 → Option (List (Value × Hp))
  | [] => some []
  | q :: qs => match valOne sm rec q, valAll qs with
    | some a, some b => some (a ++ b)
    | _, _ => none

def valOp (ρ : Operand → Option Value) (o : Oper) (h : Hp) : Option (List (Value × Hp)) :=
  match aop P ρ h o with
  | some L => valAll sm rec L
  | none => none

/-- What an operation at the heap leaves: what it gives; the heap behind it; from which block on it may have changed something. -/
def heapOne (seen : Bool) (mask nx0 : Nat) (np : List DNp) (h : Hp) (p : Value × Hp) : Option (Value × Hp × Nat) :=
  match seen with
  | true => some (p.1, p.2.setLw (minN h.lw p.2.lw), minN h.nx p.2.lw)
  | false => match Nat.ble h.nx p.2.lw || (Nat.ble nx0 p.2.lw && np.all (apart2 np mask p.2.lw)) with
    | true => some (p.1, (backA mask h np p.2).setLw (minN h.lw p.2.lw), minN h.nx p.2.lw)
    | false => none

def heapAll (seen : Bool) (mask nx0 : Nat) (np : List DNp) (h : Hp) : List (Value × Hp) → Option (List (Value × Hp × Nat))
  | [] => some []
  | p :: ps => match heapOne seen mask nx0 np h p, heapAll seen mask nx0 np h ps with
    | some x, some l => some (x :: l)
    | _, _ => none

def heapOp (ρ : Operand → Option Value) (o : Oper) (mask nx0 : Nat) (np : List DNp) (h : Hp) : Option (List (Value × Hp × Nat)) :=
  match valOp P sm rec ρ o ((view mask np h).setLw BIG) with
  | some L => heapAll (allSeen mask np) mask nx0 np h L
  | none => none

def nextD (d : DS) (i : Nat) (o : Oper) (mask lk : Nat) (s : St) (np : List DNp) (must : Nat) : DS :=
  { s, nx0 := d.nx0, masks := T.set TD d.masks i (Nat.lor (2 ^ i) mask), recs := { j := i, dst := o.dst, lk } :: d.recs, np, done := Nat.lor d.done (2 ^ i), must }

def putAll (d : DS) (i : Nat) (o : Oper) (mask lk must : Nat) : List (Value × Hp × Nat) → Option (List DS)
  | [] => some []
  | (v, h, lo) :: ps => match putO { d.s with hp := h } o.dst v, putAll d i o mask lk must ps with
    | some s, some l => some (nextD d i o mask lk s ({ j := i, mask, lo, hi := h.nx } :: d.np) must :: l)
    | _, _ => none

def drawVal (ops : Array Oper) (i : Nat) (o : Oper) (mask lk : Nat) (d : DS) : Option (List DS) :=
  match wantedA ops d.s.tm o with
  | some false => match putO d.s o.dst undef with
    | some s => some [nextD d i o mask lk s d.np d.must]
    | none => none
  | some true => match pureOp P (evalL ng lk d.s.tm) o with
    | some v => match putO d.s o.dst v with
      | some s => some [nextD d i o mask lk s d.np d.must]
      | none => none
    | none => match heapOp P sm rec (evalL ng lk d.s.tm) o mask d.nx0 d.np d.s.hp with
      | some [p] => putAll d i o mask lk d.must [p]
      | some (p :: q :: r) => putAll d i o mask lk (Nat.lor d.must (2 ^ i)) (p :: q :: r)
      | _ => none
  | none => none

def drawOp (ops : Array Oper) (i : Nat) (o : Oper) (d : DS) : Option (List DS) :=
  match Nat.blt i (2 ^ TD) && !Nat.testBit d.done i, depMask d.masks o.after.toList with
  | true, some mask =>
    match Nat.beq (Nat.land d.must mask) d.must && d.recs.all (apart1 mask o.dst (lkMask (o.looksAt ops))) with
    | true => drawVal P ng sm rec ops i o mask (lkMask (o.looksAt ops)) d
    | false => none
  | _, _ => none

def bindD (f : DS → Out) : List DS → Out
  | [] => some []
  | x :: xs => match xs with
    | [] => f x
    | _ :: _ => match f x with
      | some l => match bindD f xs with
        | some m => some (l ++ m)
        | none => none
      | none => none

def drawOps (ops : Array Oper) : List (Nat × Oper) → DS → Out
  | [], d => some [.out .normal d.s]
  | (i, o) :: os, d => match drawOp P ng sm rec ops i o d with
    | some L => bindD (drawOps ops os) L
    | none => none

def drawR (ops : Array Oper) (s : St) : Out :=
  let l := order (enum 0 ops.toList)
  match Nat.ble s.hp.nx (2 ^ HD) with
  | true => drawOps P ng sm rec ops l { s, nx0 := s.hp.nx, masks := .e, recs := [], np := [], done := 0, must := 0 }
  | false => none

/-! ### Ranges over functions -/
def enterA (k : Kd) (s : St) (ps : Array Tmp) (as bd : Code) : Option (Nat × St) :=
  match k.rnd with
  | none => match s.hp.room, (s.hp.new (.defs (some []))).room with
    | true, true => some (s.hp.nx + 1, { s with df := { target := .collected s.hp.nx, args := #[] } :: s.df, hp := (s.hp.new (.defs (some []))).new (.loop .ready none k.fn s.tm s.ntm ps.toList as bd s.hp.nx) })
    | _, _ => none
  | some l0 => match s.hp.get l0, s.hp.room with
    | some (.loop _ _ _ _ _ _ _ _ d), true => some (s.hp.nx, { s with hp := s.hp.new (.loop .ready none k.fn s.tm s.ntm ps.toList as bd d) })
    | _, _ => none

def endLoopA (l : Nat) (s : St) (h : Hp) : Out :=
  match h.get l with
  | some (.loop st pend fn tm ntm ps as bd d) => match st with
    | .busy => none
    | _ => match pend with
      | none => some [.out .normal { s with hp := h.put l (.loop .exhausted pend fn tm ntm ps as bd d) }]
      | some .ret => some [.out .ret { s with hp := h.put l (.loop .exhausted pend fn tm ntm ps as bd d) }]
      | some (.exit id) => some [.out (.exit id) { s with hp := h.put l (.loop .exhausted pend fn tm ntm ps as bd d) }]
      | _ => none
  | _ => none

def rangeA (k : Kd) (s : St) (g : Operand) (ps : Array Tmp) (as bd : Code) : Out :=
  match evalX ng s.tm g, enterA k s ps as bd with
  | some v, some (l, s1) => match aCallV P s1.hp v [.func (.yield l) #[] #[]] with
    | some [.ent f args _] => bindO (doCall sm rec f args s1.hp) fun
      | .ret _ h _ => endLoopA l s1 h
      | .pan ch h _ => some [.out (.panic ch) { s1 with hp := h }]
      | .out _ _ => none
    | _ => none
  | _, _ => none

def endRoundA (l : Nat) (jump : Option Code) (h : Hp) : Out :=
  match h.get l with
  | some (.loop _ _ fn tm ntm ps as bd d) => match jump with
    | none => some [.ret (.bool true) (h.put l (.loop .ready none fn tm ntm ps as bd d)) .run]
    | some j => some [.ret (.bool false) (h.put l (.loop .done (some j) fn tm ntm ps as bd d)) .run]
  | _ => none

def beginRoundA (l : Nat) (h : Hp) : Option Hp :=
  match h.get l with
  | some (.loop .ready pend fn tm ntm ps as bd d) => some (h.put l (.loop .busy pend fn tm ntm ps as bd d))
  | _ => none

def roundA (l : Nat) (fn : FuncId) (tm : T Value) (ntm : Nat) (as bd : Code) (h : Hp) : Out :=
  bindO (rec (.code ⟨fn, false, some l⟩ as ⟨tm, ntm, [], h, .run⟩)) fun
    | .out .normal s => match beginRoundA l s.hp with
      | some h1 => bindO (rec (.code ⟨fn, false, some l⟩ bd { s with hp := h1 })) fun
        | .out .normal s => endRoundA l none s.hp
        | .out .ret s => endRoundA l (some .ret) s.hp
        | .out (.exit id) s => endRoundA l (some (.exit id)) s.hp
        | _ => none
      | none => none
    | _ => none

/-! ### A function's frame -/
def settleA : FrameMode → FrameMode
  | .panicking ({ recovered := true, .. } :: older) =>
    match older.dropWhile (!·.goexit) with
    | [] => .returning
    | rest => .panicking rest
  | m => m

def raisedA (u : FrameMode) (chain : List PanicEntry) : FrameMode :=
  match u with
  | .panicking old => .panicking (chain ++ old)
  | _ => .panicking chain

def results1 (tm : T Value) (h : Hp) : ResultVar → Option Value
  | .tmp t => match Nat.blt t (2 ^ TD) with
    | true => T.get TD tm t
    | false => none
  | .cell a t => match Nat.blt a (2 ^ TD) with
    | true => match T.get TD tm a with
      | some p => aLoad P h t p
      | none => none
    | false => none

def resultsL (tm : T Value) (h : Hp) : List ResultVar → Option (List Value)
  | [] => some []
  | r :: rs => match results1 P tm h r with
    | some v => match resultsL tm h rs with
      | some vs => some (v :: vs)
      | none => none
    | none => none

def resultsA (fn : Func) (tm : T Value) (h : Hp) : Option Value :=
  match resultsL P tm h fn.results.toList with
  | some [v] => some v
  | some vs => some (.tuple vs.toArray)
  | none => none

def takeA (r : Nat) (h : Hp) : Option Hp :=
  match h.get r with
  | some (.defs (some [])) => some (h.put r (.defs none))
  | _ => none

def unwindA (fn : Func) (tm : T Value) (md : FrameMode) : List Deferred → Hp → FrameMode → Out
  | [], h, u => match u with
    | .returning => match resultsA P fn tm h with
      | some v => some [.ret v h md]
      | none => none
    | .panicking ch => some [.pan ch h md]
    | .run => none
  | d :: ds, h, u => match u, d.target with
    | .run, _ => none
    | _, .collected r => match takeA r h with
      | some h1 => unwindA fn tm md ds h1 u
      | none => none
    | _, .fn (.func g) cap => match P.funcs[g]? with
      | some gf => match gf.body with
        | some _ => bindO (rec (.call g (d.args.toList ++ cap.toList) true h u)) fun
          | .ret _ h1 u1 => unwindA fn tm md ds h1 (settleA u1)
          | .pan ch h1 u1 => unwindA fn tm md ds h1 (raisedA u1 ch)
          | .out _ _ => none
        | none => none
      | none => none
    | _, _ => none

def argsT : Nat → T Value → List Value → T Value
  | _, t, [] => t
  | i, t, v :: vs => argsT (i + 1) (T.set TD t i v) vs

def mdOf : Bool → FrameMode → FrameMode
  | true, m => m
  | false, _ => .run

def callA (f : FuncId) (args : List Value) (dfr : Bool) (h : Hp) (md : FrameMode) : Out :=
  match P.funcs[f]? with
  | some fn => match fn.body with
    | some c => match Nat.ble args.length fn.ntmps && Nat.ble fn.ntmps (2 ^ TD) with
      | true => bindO (rec (.code ⟨f, dfr, none⟩ c ⟨argsT 0 .e args, fn.ntmps, [], h, mdOf dfr md⟩)) fun
        | .out .normal s => unwindA P rec fn s.tm s.md s.df s.hp .returning
        | .out .ret s => unwindA P rec fn s.tm s.md s.df s.hp .returning
        | .out (.panic ch) s => unwindA P rec fn s.tm s.md s.df s.hp (.panicking ch)
        | _ => none
      | false => none
    | none => none
  | none => none

def loopA (k : Kd) (c : Code) (s : St) : Out :=
  bindO (rec (.code k c s)) fun
    | .out .normal s => rec (.loop k c s)
    | .out x s => some [.out x s]
    | _ => none

def stepA : Tk → Out
  | .loop k c s => loopA rec k c s
  | .call f args dfr h md => callA P rec f args dfr h md
  | .round l fn tm ntm as bd h => roundA rec l fn tm ntm as bd h
  | .code k c s => match c with
    | .skip => some [.out .normal s]
    | .seq x y => bindO (rec (.code k x s)) fun
      | .out .normal s => rec (.code k y s)
      | .out x s => some [.out x s]
      | _ => none
    | .cond c x y => match evalX ng s.tm c with
      | some (.bool true) => rec (.code k x s)
      | some (.bool false) => rec (.code k y s)
      | _ => none
    | .block id c => bindO (rec (.code k c s)) fun
      | .out (.exit i) s => match Nat.beq i id with
        | true => some [.out .normal s]
        | false => some [.out (.exit i) s]
      | .out x s => some [.out x s]
      | _ => none
    | .loop c => loopA rec k c s
    | .region _ ops draw => match draw with
      | false => runOps P ng sm rec k ops ops.toList s
      | true => drawR P ng sm rec ops s
    | .rangeFunc g ps as bd => rangeA P ng sm rec k s g ps as bd
    | .exit id => some [.out (.exit id) s]
    | .ret => some [.out .ret s]
    | _ => none
end

def ev (P : Program) (ng : Nat) (sm : Sums) (n : Nat) : Tk → Out :=
  Nat.rec (motive := fun _ => Tk → Out) (fun _ => none) (fun _ ih => stepA P ng sm ih) n

def noSums : Sums := fun _ _ _ => none
end Go.Ev
