/-
  Back to the heap from before: the relation is a function of its left side; what a call has left untouched. · What the evaluator's word is worth: the claims of code, calls, rounds; the single operation at the machine. · The operation at the machine; a region in the text's order. · Code: sequences, conditions, blocks, loops; regions in the text's order; rounds; functions' frames. · Functions' frames: results, deferred calls; ranges over functions. · A function's contract from its body's run; ranges over functions.
-/
import Derived.Test.YtnkipokbghnjcaaGreatDoorEvC
import Derived.RangeFuncLeaves
/-! Back to the heap from before: the relation is a function of its left side; what a call has left untouched. -/
namespace Go.Ev
open Go

theorem FnR.fun {μ : Mu} {f a b : Fn} (h : FnR μ f a) (k : FnR μ f b) : a = b := by
  cases h with
  | yield h1 _ => cases k with | yield k1 _ => rw [h1] at k1; cases k1; rfl
  | _ => cases k; rfl

theorem CapR.fun {ex c a b : Nat} (h : CapR ex c a) (k : CapR ex c b) : a = b := by
  rcases h with ⟨_, h⟩ | ⟨_, h⟩ <;> rcases k with ⟨_, k⟩ | ⟨_, k⟩ <;> omega

theorem arr_fun {μ : Mu} {a x y : Array Value} (hx : a.size = x.size) (hy : a.size = y.size)
    (ih : ∀ (i : Nat) u v, a[i]? = some u → x[i]? = some v → ∀ b, VR μ u b → v = b) (k : ∀ (i : Nat) u v, a[i]? = some u → y[i]? = some v → VR μ u v) : x = y := by
  apply Array.ext (hx.symm.trans hy)
  intro i h1 h2
  have ha : i < a.size := by omega
  exact ih i a[i] x[i] (Array.getElem?_eq_getElem ha) (Array.getElem?_eq_getElem h1) _ (k i a[i] y[i] (Array.getElem?_eq_getElem ha) (Array.getElem?_eq_getElem h2))

theorem VR.fun {μ : Mu} {v a : Value} (h : VR μ v a) : ∀ b, VR μ v b → a = b := by
  induction h with
  | bool | int | string | ptr0 | sl0 | map0 | nilFunc | nilIface => intro b k; cases k; rfl
  | ptr h1 => intro b k; cases k with | ptr h2 => rw [h1] at h2; cases h2; rfl
  | sl h1 c1 => intro b k; cases k with | sl h2 c2 => rw [h1] at h2; cases h2; rw [c1.fun c2]
  | map h1 => intro b k; cases k with | map h2 => rw [h1] at h2; cases h2; rfl
  | func f s1 _ s2 _ ih1 ih2 =>
    intro b k
    cases k with
    | func f' s1' h1' s2' h2' => rw [f.fun f', arr_fun s1 s1' ih1 h1', arr_fun s2 s2' ih2 h2']
  | iface _ ih => intro b k; cases k with | iface k => rw [ih _ k]
  | agg s _ ih => intro b k; cases k with | agg s' h' => rw [arr_fun s s' ih h']
  | tuple s _ ih => intro b k; cases k with | tuple s' h' => rw [arr_fun s s' ih h']

theorem VR.down {μ μ' : Mu} (l : μ.le μ') {v a b : Value} (h : VR μ v a) (k : VR μ' v b) : VR μ v b := by
  rw [← (h.mono l).fun b k]; exact h
theorem FnR.down {μ μ' : Mu} (l : μ.le μ') {v a b : Fn} (h : FnR μ v a) (k : FnR μ' v b) : FnR μ v b := by
  rw [← (h.mono l).fun k]; exact h
theorem AllR.down {μ μ' : Mu} (l : μ.le μ') {v a b : Array Value} (h : AllR μ v a) (k : AllR μ' v b) : AllR μ v b := by
  refine ⟨k.1, fun i x y hx hy => ?_⟩
  obtain ⟨z, _, hv⟩ := h.have hx
  exact hv.down l (k.2 i x y hx hy)
theorem TgR.down {μ μ' : Mu} (l : μ.le μ') {v a b : Target} (h : TgR μ v a) (k : TgR μ' v b) : TgR μ v b := by
  cases v <;> cases a <;> cases b <;> simp only [TgR] at h k ⊢ <;> first
    | exact h
    | exact k
    | exact h.elim
    | exact k.elim
    | exact ⟨h.1.down l k.1, h.2.down l k.2⟩
    | (obtain ⟨x, p, q, r⟩ := h; obtain ⟨x', p', q', r'⟩ := k; rw [l _ _ p] at p'; cases p'; exact ⟨x, p, q', r'⟩)
theorem DfR.down {μ μ' : Mu} (l : μ.le μ') {v a b : Deferred} (h : DfR μ v a) (k : DfR μ' v b) : DfR μ v b := ⟨h.1.down l k.1, h.2.down l k.2⟩
theorem DfsR.down {μ μ' : Mu} (l : μ.le μ') {v a b : List Deferred} (h : DfsR μ v a) (k : DfsR μ' v b) : DfsR μ v b := by
  refine ⟨k.1, fun i x y hx hy => ?_⟩
  have hi : i < a.length := by rw [← h.1]; exact (List.getElem?_eq_some_iff.1 hx).1
  exact (h.2 i x a[i] hx (List.getElem?_eq_getElem hi)).down l (k.2 i x y hx hy)
theorem TmR.down {μ μ' : Mu} (l : μ.le μ') {t : T Value} {n : Nat} {a b : Array Value} (h : TmR μ t n a) (k : TmR μ' t n b) : TmR μ t n b := by
  refine ⟨k.1, k.2.1, fun i v hi hv => ?_⟩
  obtain ⟨x, _, hx⟩ := h.2.2 i v hi hv
  obtain ⟨y, hy, hk⟩ := k.2.2 i v hi hv
  exact ⟨y, hy, hx.down l hk⟩
theorem EnsR.down {μ μ' : Mu} (l : μ.le μ') {v a b : List MapEntry} (h : EnsR μ v a) (k : EnsR μ' v b) : EnsR μ v b := by
  refine ⟨k.1, fun i x y hx hy => ?_⟩
  have hi : i < a.length := by rw [← h.1]; exact (List.getElem?_eq_some_iff.1 hx).1
  have h0 := h.2 i x a[i] hx (List.getElem?_eq_getElem hi)
  have k0 := k.2 i x y hx hy
  exact ⟨h0.1.down l k0.1, h0.2.1.down l k0.2.1, k0.2.2⟩

theorem OR.down {P : Program} {μ μ' : Mu} (l : μ.le μ') {x : Spot} {o : AObj} {a b : Obj} (h : OR P μ x o a) (k : OR P μ' x o b) : OR P μ x o b := by
  cases h with
  | cells h1 h2 h3 =>
    cases k with
    | cells k1 k2 k3 =>
      refine .cells k1 k2 fun j v hv => ?_
      obtain ⟨y, _, hy⟩ := h3 j v hv
      obtain ⟨z, hz, kz⟩ := k3 j v hv
      exact ⟨z, hz, hy.down l kz⟩
  | map h1 h2 => cases k with | map k1 k2 => exact .map k1 (h2.down l k2)
  | iter0 h1 => cases k with | iter0 k1 => exact .iter0 k1
  | iter h1 h2 h3 => cases k with | iter k1 k2 k3 => have := l _ _ h2; rw [this] at k2; cases k2; exact .iter k1 h2 k3
  | loop h1 h2 h3 h4 =>
    cases k with
    | loop k1 k2 k3 k4 => have := l _ _ h3; rw [this] at k3; cases k3; exact .loop k1 (h2.down l k2) h3 k4
  | defs0 h1 => cases k with | defs0 k1 => exact .defs0 k1
  | defs h1 h2 => cases k with | defs k1 k2 => exact .defs k1 (h2.down l k2)

/-- Where nothing old has been changed, and nothing new is asked for: the heap from before. -/
theorem WR.back {P : Program} {μ μ' : Mu} {h h' : Hp} {w w' : World} (r : WR P μ h w) (r' : WR P μ' h' w') (f : Fr μ h w μ' h' w') (hl : h.nx ≤ h'.lw) : WR P μ h w' ∧ Fr μ h w μ h w' := by
  refine ⟨⟨fun b o hb hd => ?_, r.inj, r.cap⟩, ⟨Mu.le_refl _, fun _ _ => rfl, Nat.le_refl _, f.sz, f.keep, fun b l a e _ => ⟨b, l, a, e, rfl⟩, Nat.le_refl _, fun _ _ _ _ _ => Iff.rfl, f.wk⟩⟩
  obtain ⟨l, o', h1, h2, h3⟩ := r.live b o hb hd
  have hlt := Hp.get_lt hb
  have hb' : h'.get b = some o := (f.old b hlt (by omega) o hd).2 hb
  obtain ⟨l', o'', k1, k2, k3⟩ := r'.live b o hb' hd
  have := f.le _ _ h1
  rw [this] at k1; cases k1
  exact ⟨l, o'', h1, k2, h3.down f.le k3⟩

/-- The count of what has been written, set anew. -/
theorem WR.setLw {P : Program} {μ : Mu} {h : Hp} {w : World} (r : WR P μ h w) (n : Nat) : WR P μ (h.setLw n) w := ⟨r.live, r.inj, r.cap⟩

theorem Fr.setLw {μ μ' : Mu} {h h' : Hp} {w w' : World} {n : Nat} (f : Fr μ (h.setLw n) w μ' h' w') : Fr μ h w μ' (h'.setLw (minN h.lw h'.lw)) w' := by
  have hm : ∀ a b, minN a b ≤ a ∧ minN a b ≤ b := fun a b => by
    unfold minN
    cases q : Nat.blt a b with
    | true => rw [Nat.blt_eq] at q; simp only; omega
    | false =>
      have : ¬ a < b := fun hl => by rw [← Nat.blt_eq] at hl; rw [hl] at q; cases q
      simp only; omega
  exact ⟨f.le, f.out, f.nx, f.sz, f.keep, f.img, (hm _ _).1, fun b h1 h2 => f.old b h1 (Nat.lt_of_lt_of_le h2 (hm _ _).2), f.wk⟩
end Go.Ev

/-! What the evaluator's word is worth: the claims of code, calls, rounds; the single operation at the machine. -/
namespace Go.Ev
open Go

structure PeR (μ : Mu) (e e' : PanicEntry) : Prop where
  v : VR μ e.v e'.v
  r : e'.recovered = e.recovered
  g : e'.goexit = e.goexit

inductive ChR (μ : Mu) : List PanicEntry → List PanicEntry → Prop where
  | nil : ChR μ [] []
  | cons {e e' c c'} : PeR μ e e' → ChR μ c c' → ChR μ (e :: c) (e' :: c')

inductive MdR (μ : Mu) : FrameMode → FrameMode → Prop where
  | run : MdR μ .run .run
  | returning : MdR μ .returning .returning
  | panicking {c c'} : ChR μ c c' → MdR μ (.panicking c) (.panicking c')

theorem PeR.mono {μ μ' : Mu} (l : μ.le μ') {e e' : PanicEntry} (h : PeR μ e e') : PeR μ' e e' := ⟨h.v.mono l, h.r, h.g⟩
theorem ChR.mono {μ μ' : Mu} (l : μ.le μ') {c c' : List PanicEntry} (h : ChR μ c c') : ChR μ' c c' := by
  induction h with
  | nil => exact .nil
  | cons a _ ih => exact .cons (a.mono l) ih
theorem MdR.mono {μ μ' : Mu} (l : μ.le μ') {m m' : FrameMode} (h : MdR μ m m') : MdR μ' m m' := by
  cases h with
  | run => exact .run
  | returning => exact .returning
  | panicking h => exact .panicking (h.mono l)
theorem ChR.app {μ : Mu} {a a' b b' : List PanicEntry} (h : ChR μ a a') (k : ChR μ b b') : ChR μ (a ++ b) (a' ++ b') := by
  induction h with
  | nil => exact k
  | cons x _ ih => exact .cons x ih

/-- A package variable whose block the evaluator leaves alone: in the world it holds some number of the kind int. -/
def pinG (P : Program) (g : Nat) : Bool := match P.globals[g]? with
  | some x => x.name == "internal/bytealg.MaxLen"
  | none => false
def PinR (P : Program) (μ : Mu) (h : Hp) (w : World) : Prop :=
  ∀ g, pinG P g = true → (∀ b l, h.live b → μ b = some l → l.blk ≠ g) ∧ ∃ c t m, w.heap[g]? = some (.cells c t (0, 0)) ∧ c[0]? = some (.int .i64 m)

theorem PinR.of {P : Program} {μ μ' : Mu} {h h' : Hp} {w w' : World} (p : PinR P μ h w)
    (keep : ∀ r, r < w.heap.size → (∀ b l, h.live b → μ b = some l → l.blk ≠ r) → w'.heap[r]? = w.heap[r]?)
    (img : ∀ b l, h'.live b → μ' b = some l → l.blk < w.heap.size → ∃ b0 l0, h.live b0 ∧ μ b0 = some l0 ∧ l0.blk = l.blk) : PinR P μ' h' w' := by
  intro g hg
  obtain ⟨p1, c, t, m, p2, p3⟩ := p g hg
  have hsz := (Array.getElem?_eq_some_iff.1 p2).1
  refine ⟨fun b l hb hm he => ?_, c, t, m, by rw [keep g hsz p1]; exact p2, p3⟩
  obtain ⟨b0, l0, k1, k2, k3⟩ := img b l hb hm (by rw [he]; exact hsz)
  exact p1 b0 l0 k1 k2 (by rw [k3, he])
theorem PinR.step {P : Program} {μ μ' : Mu} {h h' : Hp} {w w' : World} (p : PinR P μ h w) (f : Fr μ h w μ' h' w') : PinR P μ' h' w' := p.of f.keep f.img
/-- Of fewer blocks. -/
theorem PinR.sub {P : Program} {μ μ' : Mu} {h h' : Hp} {w : World} (p : PinR P μ h w) (s : ∀ b l, h'.live b → μ' b = some l → ∃ b0 l0, h.live b0 ∧ μ b0 = some l0 ∧ l0.blk = l.blk) : PinR P μ' h' w :=
  p.of (fun _ _ _ => rfl) fun b l hb hm _ => s b l hb hm

structure OKm (P : Program) (ng : Nat) (μ : Mu) (h : Hp) (w : World) : Prop where
  wr : WR P μ h w
  fr : ∀ b, h.nx ≤ b → μ b = none
  gl : GlR μ ng
  pin : PinR P μ h w

theorem GlR.mono {μ μ' : Mu} {ng : Nat} (l : μ.le μ') (h : GlR μ ng) : GlR μ' ng := fun g hg => l _ _ (h g hg)

section
variable {P : Program} {ng : Nat}

theorem OKm.step {μ μ' : Mu} {h h' : Hp} {w w' : World} (o : OKm P ng μ h w) (r : WR P μ' h' w') (f : Fr μ h w μ' h' w') : OKm P ng μ' h' w' :=
  ⟨r, fun b hb => by rw [f.out b (.inr hb)]; exact o.fr b (Nat.le_trans f.nx hb), o.gl.mono f.le, o.pin.step f⟩

theorem OKm.fresh {μ : Mu} {h : Hp} {w : World} (o : OKm P ng μ h w) (h' : Hp) : Fresh μ h h' := fun b hb _ => o.fr b hb

theorem OKm.setLw {μ : Mu} {h : Hp} {w : World} (o : OKm P ng μ h w) (n : Nat) : OKm P ng μ (h.setLw n) w := ⟨o.wr.setLw n, o.fr, o.gl, o.pin⟩
theorem OKm.heap {μ : Mu} {h : Hp} {w w' : World} (o : OKm P ng μ h w) (e : w'.heap = w.heap) : OKm P ng μ h w' := ⟨o.wr.heap e, o.fr, o.gl, fun g hg => by have := o.pin g hg; rw [e]; exact this⟩

structure StR (μ : Mu) (s : St) (a : Act) : Prop where
  tm : TmR μ s.tm s.ntm a.tmps
  df : DfsR μ s.df a.defers

theorem StR.mono {μ μ' : Mu} (l : μ.le μ') {s : St} {a : Act} (h : StR μ s a) : StR μ' s a := ⟨h.tm.mono l, h.df.mono l⟩

def kindOf : Bool → CallKind
  | true => .deferred
  | false => .normal

def roR (μ : Mu) : Option Nat → Option Nat → Prop
  | none, r => r = none
  | some l, r => ∃ x, μ l = some x ∧ x.sh = 0 ∧ r = some x.blk

structure KdR (μ : Mu) (k : Kd) (b : Frame) : Prop where
  fn : b.fn = k.fn
  kind : b.kind = kindOf k.dfr
  ro : roR μ k.rnd b.roundOf

theorem KdR.mono {μ μ' : Mu} (l : μ.le μ') {k : Kd} {b : Frame} (h : KdR μ k b) : KdR μ' k b := by
  refine ⟨h.fn, h.kind, ?_⟩
  have := h.ro
  unfold roR at this ⊢
  split
  · rename_i hr; rw [hr] at this; exact this
  · rename_i hr; rw [hr] at this; obtain ⟨x, p, q⟩ := this; exact ⟨x, l _ _ p, q⟩

inductive ExR (μ : Mu) : Ex → Exit → Prop where
  | normal : ExR μ .normal .normal
  | exit (id) : ExR μ (.exit id) (.exit id)
  | ret : ExR μ .ret .ret
  | panic {c c'} : ChR μ c c' → ExR μ (.panic c) (.panic c')

def setMd : Bool → FrameMode → List Frame → List Frame
  | true, u, c :: cs => { c with mode := u } :: cs
  | _, _, cs => cs

def Arr (P : Program) (m : Machine) (b : Frame) (K : List Item) (cs : List Frame) (a : Act) (w : World) : Exit → Prop
  | .normal => Steps P m (lone (b.atR a K) cs w)
  | .exit id => ∃ K1, exitTo id K1 = exitTo id K ∧ Steps P m (lone (b.atR a (.code (.exit id) :: K1)) cs w)
  | .ret => ∃ K1, Steps P m (lone (b.atR a (.code .ret :: K1)) cs w)
  | .panic ch => ∃ K1, Steps P m (lone { b.atR a K1 with mode := .panicking ch } cs w)
  | _ => False

theorem Arr.head {m m1 : Machine} {b : Frame} {K : List Item} {cs : List Frame} {a : Act} {w : World} {e : Exit} (h : Steps P m m1) (k : Arr P m1 b K cs a w e) : Arr P m b K cs a w e := by
  cases e with
  | normal => exact h.trans k
  | exit id => obtain ⟨K1, p, q⟩ := k; exact ⟨K1, p, h.trans q⟩
  | ret => obtain ⟨K1, q⟩ := k; exact ⟨K1, h.trans q⟩
  | panic ch => obtain ⟨K1, q⟩ := k; exact ⟨K1, h.trans q⟩
  | goto l => exact k.elim
  | outgrown => exact k.elim

structure Fin (P : Program) (ng : Nat) (μ0 : Mu) (h0 : Hp) (w0 : World) (x : Ex) (s : St) (μ : Mu) (w : World) (a : Act) (u : FrameMode) (e : Exit) : Prop where
  ex : ExR μ x e
  ok : OKm P ng μ s.hp w
  fr : Fr μ0 h0 w0 μ s.hp w
  st : StR μ s a
  md : MdR μ s.md u

def Goes (P : Program) (ng : Nat) (d : Bool) (m : Machine) (b : Frame) (K : List Item) (cs : List Frame) (μ0 : Mu) (h0 : Hp) (w0 : World) (L : List Res) : Prop :=
  ∃ x s μ w a u e, Res.out x s ∈ L ∧ Fin P ng μ0 h0 w0 x s μ w a u e ∧ Arr P m b K (setMd d u cs) a w e

theorem Goes.head {d : Bool} {m m1 : Machine} {b : Frame} {K : List Item} {cs : List Frame} {μ0 : Mu} {h0 : Hp} {w0 : World} {L : List Res} (h : Steps P m m1) (g : Goes P ng d m1 b K cs μ0 h0 w0 L) : Goes P ng d m b K cs μ0 h0 w0 L := by
  obtain ⟨x, s, μ, w, a, u, e, hm, hf, ha⟩ := g
  exact ⟨x, s, μ, w, a, u, e, hm, hf, ha.head h⟩

theorem Fin.from {μ0 μ1 : Mu} {h0 h1 : Hp} {w0 w1 : World} {x : Ex} {s : St} {μ : Mu} {w : World} {a : Act} {u : FrameMode} {e : Exit} (f : Fr μ0 h0 w0 μ1 h1 w1) (g : Fin P ng μ1 h1 w1 x s μ w a u e) : Fin P ng μ0 h0 w0 x s μ w a u e :=
  ⟨g.ex, g.ok, f.trans g.fr, g.st, g.md⟩

theorem Goes.from {d : Bool} {m : Machine} {b : Frame} {K : List Item} {cs : List Frame} {μ0 μ1 : Mu} {h0 h1 : Hp} {w0 w1 : World} {L : List Res} (f : Fr μ0 h0 w0 μ1 h1 w1) (g : Goes P ng d m b K cs μ1 h1 w1 L) : Goes P ng d m b K cs μ0 h0 w0 L := by
  obtain ⟨x, s, μ, w, a, u, e, hm, hf, ha⟩ := g
  exact ⟨x, s, μ, w, a, u, e, hm, hf.from f, ha⟩

theorem Goes.mono {d : Bool} {m : Machine} {b : Frame} {K : List Item} {cs : List Frame} {μ0 : Mu} {h0 : Hp} {w0 : World} {L M : List Res} (h : ∀ r ∈ L, r ∈ M) (g : Goes P ng d m b K cs μ0 h0 w0 L) : Goes P ng d m b K cs μ0 h0 w0 M := by
  obtain ⟨x, s, μ, w, a, u, e, hm, hf, ha⟩ := g
  exact ⟨x, s, μ, w, a, u, e, h _ hm, hf, ha⟩

theorem bindR_mem {α : Type} {f : α → Out} : ∀ {L : List α} {M : List Res}, bindR f L = some M → ∀ x ∈ L, ∃ N, f x = some N ∧ ∀ r ∈ N, r ∈ M
  | [], _, _, x, hx => by simp at hx
  | [y], M, e, x, hx => by
    simp only [List.mem_singleton] at hx
    subst hx
    exact ⟨M, e, fun _ h => h⟩
  | y :: z :: zs, M, e, x, hx => by
    unfold bindR at e
    simp only at e
    split at e
    · rename_i l hl
      split at e
      · rename_i m hm
        cases e
        rcases List.mem_cons.1 hx with rfl | hx
        · exact ⟨l, hl, fun r hr => List.mem_append_left _ hr⟩
        · obtain ⟨N, h1, h2⟩ := bindR_mem hm x hx
          exact ⟨N, h1, fun r hr => List.mem_append_right _ (h2 r hr)⟩
      · cases e
    · cases e

theorem bindO_some {o : Out} {f : Res → Out} {M : List Res} (e : bindO o f = some M) : ∃ L, o = some L ∧ bindR f L = some M := by
  unfold bindO at e
  split at e
  · exact ⟨_, rfl, e⟩
  · cases e

/-- On behind an item that no exit sees. -/
theorem Goes.bind {d : Bool} {m : Machine} {b : Frame} {I : Item} {K : List Item} {cs : List Frame} {μ0 : Mu} {h0 : Hp} {w0 : World} {L M : List Res} {f : Res → Out}
    (hI : ∀ id, exitTo id (I :: K) = exitTo id K) (g : Goes P ng d m b (I :: K) cs μ0 h0 w0 L) (e : bindR f L = some M)
    (hn : ∀ s μ w a u N, f (.out .normal s) = some N → Fr μ0 h0 w0 μ s.hp w → OKm P ng μ s.hp w → StR μ s a → MdR μ s.md u → Goes P ng d (lone (b.atR a (I :: K)) (setMd d u cs) w) b K cs μ s.hp w N)
    (hx : ∀ x s, x ≠ .normal → f (.out x s) = some [.out x s]) : Goes P ng d m b K cs μ0 h0 w0 M := by
  obtain ⟨x, s, μ, w, a, u, e', hm, hf, ha⟩ := g
  obtain ⟨N, hN, hNM⟩ := bindR_mem e _ hm
  have hE := hf.ex
  cases hE with
  | normal => exact ((hn s μ w a u N hN hf.fr hf.ok hf.st hf.md).from hf.fr).head ha |>.mono hNM
  | exit id =>
    rw [hx _ _ (by simp)] at hN
    cases hN
    obtain ⟨K1, p, q⟩ := ha
    exact ⟨_, s, μ, w, a, u, _, hNM _ (List.mem_singleton.2 rfl), hf, K1, p.trans (hI id), q⟩
  | ret =>
    rw [hx _ _ (by simp)] at hN
    cases hN
    exact ⟨_, s, μ, w, a, u, _, hNM _ (List.mem_singleton.2 rfl), hf, ha⟩
  | panic h =>
    rw [hx _ _ (by simp)] at hN
    cases hN
    exact ⟨_, s, μ, w, a, u, _, hNM _ (List.mem_singleton.2 rfl), hf, ha⟩

/-! ### The claims -/
def CodeOK (P : Program) (ng : Nat) (k : Kd) (c : Code) (s : St) (L : List Res) : Prop :=
  ∀ μ w b K cs a u, OKm P ng μ s.hp w → KdR μ k b → (k.dfr = true → cs ≠ []) → MdR μ s.md u → StR μ s a →
    Goes P ng k.dfr (lone (b.atR a (.code c :: K)) (setMd k.dfr u cs) w) b K cs μ s.hp w L

inductive DoneR (P : Program) (ng : Nat) (d : Bool) (μ0 : Mu) (h0 : Hp) (w0 : World) (μ : Mu) (w : World) (u : FrameMode) : Res → Ending → Prop where
  | ret {v v' h md} : OKm P ng μ h w → Fr μ0 h0 w0 μ h w → VR μ v v' → (d = true → MdR μ md u) → DoneR P ng d μ0 h0 w0 μ w u (.ret v h md) (.returned v')
  | pan {c c' h md} : OKm P ng μ h w → Fr μ0 h0 w0 μ h w → ChR μ c c' → (d = true → MdR μ md u) → DoneR P ng d μ0 h0 w0 μ w u (.pan c h md) (.panicked c')

def CallGoes (P : Program) (ng : Nat) (d : Bool) (f : FuncId) (m : Machine) (cs : List Frame) (μ0 : Mu) (h0 : Hp) (w0 : World) (L : List Res) : Prop :=
  ∃ r μ w u e fr, r ∈ L ∧ DoneR P ng d μ0 h0 w0 μ w u r e ∧ Steps P m (lone fr (setMd d u cs) w) ∧ fr.kind = kindOf d ∧ fr.fn = f ∧ fr.going P w e

def CallOK (P : Program) (ng : Nat) (f : FuncId) (args : List Value) (d : Bool) (h : Hp) (md : FrameMode) (L : List Res) : Prop :=
  ∀ μ w args' cs u, OKm P ng μ h w → LR μ args args' → (d = true → cs ≠ []) → (d = true → MdR μ md u) →
    CallGoes P ng d f (lone (Frame.enter P f args'.toArray (kindOf d)) (setMd d u cs) w) cs μ h w L

def RoundOK (P : Program) (ng : Nat) (l : Nat) (fn : FuncId) (tm : T Value) (ntm : Nat) (as bd : Code) (h : Hp) (L : List Res) : Prop :=
  ∀ μ w x tmps c cs, OKm P ng μ h w → μ l = some x → x.sh = 0 → TmR μ tm ntm tmps →
    ∃ v h' md μ' w' v', Res.ret v h' md ∈ L ∧ OKm P ng μ' h' w' ∧ Fr μ h w μ' h' w' ∧ VR μ' v v' ∧
      Steps P (lone (Frame.round x.blk fn tmps as bd .normal) (c :: cs) w) (lone (c.finish v') cs w')

def LoopOK (P : Program) (ng : Nat) (k : Kd) (c : Code) (s : St) (L : List Res) : Prop :=
  ∀ μ w b K cs a u, OKm P ng μ s.hp w → KdR μ k b → (k.dfr = true → cs ≠ []) → MdR μ s.md u → StR μ s a →
    Goes P ng k.dfr (lone (b.atR a (.inLoop c :: K)) (setMd k.dfr u cs) w) b K cs μ s.hp w L

def TkOK (P : Program) (ng : Nat) : Tk → List Res → Prop
  | .code k c s, L => CodeOK P ng k c s L
  | .call f args d h md, L => CallOK P ng f args d h md L
  | .round l fn tm ntm as bd h, L => RoundOK P ng l fn tm ntm as bd h L
  | .loop k c s, L => LoopOK P ng k c s L

def RecOK (P : Program) (ng : Nat) (rec : Tk → Out) : Prop := ∀ tk L, rec tk = some L → TkOK P ng tk L
def SumsOK (P : Program) (ng : Nat) (sm : Sums) : Prop := ∀ f args h L, sm f args h = some L → CallOK P ng f args false h .run L

/-! ### Calls -/
theorem gc1_ok {r : Res} {μ0 μ : Mu} {h0 : Hp} {w0 w : World} {u : FrameMode} {e : Ending} (o : OKm P ng μ0 h0 w0) (h : DoneR P ng false μ0 (h0.setLw BIG) w0 μ w u r e) : ∃ μ', DoneR P ng false μ0 h0 w0 μ' w u (gc1 h0 r) e := by
  cases h with
  | ret hok hfr hv _ =>
    unfold gc1
    simp only
    split
    · rename_i hs
      simp only [still, Bool.and_eq_true, Nat.ble_eq] at hs
      have hf2 := hfr.setLw (h := h0)
      obtain ⟨r1, f1⟩ := (o.wr.setLw BIG).back hok.wr hfr hs.2
      refine ⟨μ0, .ret ⟨⟨r1.live, r1.inj, r1.cap⟩, o.fr, o.gl, PinR.of (h := h0) o.pin f1.keep f1.img⟩ ⟨f1.le, f1.out, f1.nx, f1.sz, f1.keep, f1.img, Nat.le_refl _, fun _ _ _ _ _ => Iff.rfl, f1.wk⟩ ?_ (by simp)⟩
      rw [gr_eq 7 _ _ hs.1 hv]; exact gr_refl 7 _ hs.1
    · exact ⟨μ, .ret (hok.setLw _) hfr.setLw hv (by simp)⟩
  | pan hok hfr hc _ => exact ⟨μ, .pan (hok.setLw _) hfr.setLw hc (by simp)⟩

def SameP (h0 : Hp) (r q : Res) : Prop := ∃ v h md g md', r = .ret v h md ∧ q = .ret v g md' ∧ still h0 v h = true ∧ still h0 v g = true

theorem same1_spec {h0 : Hp} {r q : Res} (h : same1 h0 r q = true) : SameP h0 r q := by
  unfold same1 at h
  split at h
  · simp only [Bool.and_eq_true] at h
    obtain ⟨⟨a, b⟩, c⟩ := h
    have e1 := veq_eq _ _ _ c
    subst e1
    exact ⟨_, _, _, _, _, rfl, rfl, a, b⟩
  · cases h

theorem dedup_mem {h0 : Hp} : ∀ {L : List Res} {r : Res}, r ∈ L → ∃ q ∈ dedup h0 L, q = r ∨ SameP h0 r q
  | x :: xs, r, hr => by
    unfold dedup
    rcases List.mem_cons.1 hr with rfl | hr
    · split
      · rename_i hany
        obtain ⟨q, hq, hs⟩ := List.any_eq_true.1 hany
        obtain ⟨q', hq', h'⟩ := dedup_mem (h0 := h0) hq
        refine ⟨q', hq', .inr ?_⟩
        have hs := same1_spec hs
        rcases h' with rfl | h'
        · exact hs
        · obtain ⟨v, h, md, g, md', e1, e2, s1, s2⟩ := hs
          obtain ⟨v2, h2, md2, g2, md2', k1, k2, t1, t2⟩ := h'
          rw [e2] at k1; cases k1
          exact ⟨v, h, md, g2, md2', e1, k2, s1, t2⟩
      · exact ⟨_, List.mem_cons_self, .inl rfl⟩
    · obtain ⟨q, hq, h⟩ := dedup_mem (h0 := h0) hr
      split
      · exact ⟨q, hq, h⟩
      · exact ⟨q, List.mem_cons_of_mem _ hq, h⟩

theorem same1_gc {h0 : Hp} {r q : Res} {μ0 μ : Mu} {h1 : Hp} {w0 w : World} {u : FrameMode} {e : Ending} (h : SameP h0 r q) (hd : DoneR P ng false μ0 h1 w0 μ w u (gc1 h0 r) e) : DoneR P ng false μ0 h1 w0 μ w u (gc1 h0 q) e := by
  obtain ⟨v, h, md, g, md', rfl, rfl, a, b⟩ := h
  simp only [gc1, a, b] at hd ⊢
  cases hd with
  | ret p q r _ => exact .ret p q r (by simp)

variable {sm : Sums} {rec : Tk → Out}

theorem doCall_ok (hs : SumsOK P ng sm) (hr : RecOK P ng rec) {f : FuncId} {args : List Value} {h : Hp} {L : List Res} (e : doCall sm rec f args h = some L) : CallOK P ng f args false h .run L := by
  unfold doCall at e
  split at e
  · rename_i L' hL
    cases e
    exact hs f args h _ hL
  · split at e
    · rename_i L' hL
      cases e
      have hc : CallOK P ng f args false (h.setLw BIG) .run L' := hr _ _ hL
      intro μ w args' cs u hok hargs hcs hmd
      obtain ⟨r, μ1, w1, u1, e1, fr, hm, hd, hst, hk, hfn, hgo⟩ := hc μ w args' cs u (hok.setLw _) hargs hcs hmd
      obtain ⟨μ2, hd2⟩ := gc1_ok hok hd
      obtain ⟨q, hq, hqr⟩ := dedup_mem (h0 := h) hm
      refine ⟨gc1 h q, μ2, w1, u1, e1, fr, List.mem_map.2 ⟨q, hq, rfl⟩, ?_, hst, hk, hfn, hgo⟩
      rcases hqr with rfl | hqr
      · exact hd2
      · exact same1_gc hqr hd2
    · cases e

end
end Go.Ev

/-! The operation at the machine; a region in the text's order. -/
namespace Go.Ev
open Go

section
variable {P : Program} {ng : Nat} {sm : Sums} {rec : Tk → Out}

theorem putO_ok {s s' : St} {d : Option Tmp} {v : Value} (e : putO s d v = some s') : s'.hp = s.hp ∧ s'.md = s.md ∧ ∀ {μ : Mu} {a : Act} {v' : Value}, StR μ s a → VR μ v v' → StR μ s' (a.put d v') := by
  unfold putO at e
  split at e
  · cases e; exact ⟨rfl, rfl, fun h _ => h⟩
  · split at e
    · rename_i hb
      cases e
      refine ⟨rfl, rfl, fun h hv => ⟨h.tm.put hv (by simpa [Nat.blt_eq] using hb), h.df⟩⟩
    · cases e

theorem wantedA_ok {ops : Array Oper} {μ : Mu} {tm : T Value} {n : Nat} {tmps : Array Value} (h : TmR μ tm n tmps) {o : Oper} {b : Bool} (e : wantedA ops tm o = some b) : Region.wanted o (yielded ops tmps) = b := by
  unfold wantedA at e
  unfold Region.wanted
  split at e
  · cases e; rename_i hg; rw [hg]
  · rename_i j want hg
    rw [hg]
    simp only
    split at e
    · rename_i g hj
      split at e
      · rename_i d hd
        split at e
        · rename_i hb
          have hb : d < 2 ^ TD := by simpa [Nat.blt_eq] using hb
          split at e
          · rename_i b' ht
            cases e
            obtain ⟨v', h1, h2⟩ := h.2.2 d _ hb ht
            rw [h2.bool_inv] at h1
            simp [yielded, hj, hd, h1]
          · rename_i vs ht
            cases e
            obtain ⟨v', h1, h2⟩ := h.2.2 d _ hb ht
            cases h2 with
            | tuple => simp [yielded, hj, hd, h1]
          · cases e
        · cases e
      · rename_i hd
        cases e
        simp [yielded, hj, hd]
    · rename_i hj
      cases e
      simp [yielded, hj]

theorem KdR.semAt {μ : Mu} {k : Kd} {b : Frame} (h : KdR μ k b) (ρ : Operand → Value) (o : Oper) : (∀ c, o.op ≠ .defer c) ∨ k.rnd = none → o.semAt b.roundOf ρ = execOp ρ o := by
  rintro (hd | hr)
  · exact o.semAt_eq _ _ hd
  · have := h.ro; rw [hr] at this; simp only [roR] at this; rw [this]; rfl

section steps
variable {b : Frame} {a : Act} {K : List Item} {cs : List Frame} {w w' : World} {ops : Array Oper} {i : Nat} {rest : List Nat} {o : Oper}

theorem finish_op (ho : ops[i]? = some o) (v : Value) : (b.atR a (.inRegion ops (i :: rest) :: K)).finish v = b.atR (a.put o.dst v) (.inRegion ops rest :: K) := by
  rw [Frame.finish_atR, ho]; rfl

theorem op_value (ho : ops[i]? = some o) (hw : Region.wanted o (yielded ops a.tmps) = true) {v : Value} (hr : (o.semAt b.roundOf a.eval).run P w = .ok (.value v) w') :
    step P (lone (b.atR a (.inRegion ops (i :: rest) :: K)) cs w) = .next (lone (b.atR (a.put o.dst v) (.inRegion ops rest :: K)) cs w') := by
  refine step_lone_go ?_
  rw [stepGR_op ho hw, ← finish_op ho]; simp [stepG.apply, hr]

theorem op_skip (ho : ops[i]? = some o) (hw : Region.wanted o (yielded ops a.tmps) = true) (hr : (o.semAt b.roundOf a.eval).run P w = .ok .skip w') :
    step P (lone (b.atR a (.inRegion ops (i :: rest) :: K)) cs w) = .next (lone (b.atR (a.put o.dst undef) (.inRegion ops rest :: K)) cs w') := by
  refine step_lone_go ?_
  rw [stepGR_op ho hw, ← finish_op ho]; simp [stepG.apply, hr]

theorem op_panic (ho : ops[i]? = some o) (hw : Region.wanted o (yielded ops a.tmps) = true) {v : Value} (hr : (o.semAt b.roundOf a.eval).run P w = .halt (.panic v) w') :
    step P (lone (b.atR a (.inRegion ops (i :: rest) :: K)) cs w) = .next (lone { b.atR a (.inRegion ops (i :: rest) :: K) with mode := .panicking [{ v, recovered := false }] } cs w') := by
  refine step_lone_go ?_
  rw [stepGR_op ho hw, ← Frame.raise_atR]; simp [stepG.apply, hr]

theorem op_enter (ho : ops[i]? = some o) (hw : Region.wanted o (yielded ops a.tmps) = true) {f : FuncId} {args : Array Value} (hr : (o.semAt b.roundOf a.eval).run P w = .ok (.enter f args) w') :
    step P (lone (b.atR a (.inRegion ops (i :: rest) :: K)) cs w) = .next (lone (Frame.enter P f args .normal) (b.atR a (.inRegion ops (i :: rest) :: K) :: cs) w') :=
  step_lone_go (by rw [stepGR_op ho hw]; simp [stepG.apply, hr, Frame.atR])

theorem op_round (ho : ops[i]? = some o) (hw : Region.wanted o (yielded ops a.tmps) = true) {l : Nat} {f : FuncId} {tmps : Array Value} {as bd : Code} (hr : (o.semAt b.roundOf a.eval).run P w = .ok (.round l f tmps as bd) w') :
    step P (lone (b.atR a (.inRegion ops (i :: rest) :: K)) cs w) = .next (lone (Frame.round l f tmps as bd .normal) (b.atR a (.inRegion ops (i :: rest) :: K) :: cs) w') :=
  step_lone_go (by rw [stepGR_op ho hw]; simp [stepG.apply, hr, Frame.atR])

theorem op_defer (ho : ops[i]? = some o) (hw : Region.wanted o (yielded ops a.tmps) = true) {d : Deferred} (hr : (o.semAt b.roundOf a.eval).run P w = .ok (.defer d) w') :
    step P (lone (b.atR a (.inRegion ops (i :: rest) :: K)) cs w) = .next (lone (b.atR ({ a with defers := d :: a.defers }.put o.dst undef) (.inRegion ops rest :: K)) cs w') := by
  refine step_lone_go ?_
  have : ({ b.atR a (.inRegion ops (i :: rest) :: K) with defers := d :: a.defers } : Frame).finish undef =
      b.atR ({ a with defers := d :: a.defers }.put o.dst undef) (.inRegion ops rest :: K) := finish_op (b := b) (a := { a with defers := d :: a.defers }) ho undef
  rw [stepGR_op ho hw]; simp only [stepG.apply, Sem.runT_eq, hr, GStep.bare_after]
  exact congrArg (fun fr => GStep.go { frame := fr, callers := cs, status := .running, dying := none } w') this

theorem op_recover (ho : ops[i]? = some o) (hw : Region.wanted o (yielded ops a.tmps) = true) (hro : b.roundOf = none) (hr : (o.semAt b.roundOf a.eval).run P w = .ok .recover w') :
    step P (lone (b.atR a (.inRegion ops (i :: rest) :: K)) cs w) = .next (match tryRecover (b.atR a (.inRegion ops (i :: rest) :: K)) cs with
      | some (v, cs') => lone (b.atR (a.put o.dst v) (.inRegion ops rest :: K)) cs' w'
      | none => lone (b.atR (a.put o.dst .nilIface) (.inRegion ops rest :: K)) cs w') := by
  have hg := stepGR_op (P := P) (b := b) (k := K) (cs := cs) (w := w) (rest := rest) ho hw
  have hx : ∀ (fr' : Frame) (cs' : List Frame), (stepG P true { frame := b.atR a (.inRegion ops (i :: rest) :: K), callers := cs, status := .running, dying := none } w).bare = .go { frame := fr', callers := cs', status := .running, dying := none } w' →
    step P (lone (b.atR a (.inRegion ops (i :: rest) :: K)) cs w) = .next (lone fr' cs' w') := fun fr' cs' h => step_lone_go h
  cases ht : tryRecover (b.atR a (.inRegion ops (i :: rest) :: K)) cs with
  | none =>
    refine hx _ _ ?_
    rw [hg]
    have hro' : (b.atR a (.inRegion ops (i :: rest) :: K)).roundOf = none := hro
    simp only [stepG.apply, Sem.runT_eq, hr, GStep.bare_after, if_true, hro', ht]
    rw [finish_op ho]; rfl
  | some p =>
    obtain ⟨v, cs'⟩ := p
    refine hx _ _ ?_
    rw [hg]
    have hro' : (b.atR a (.inRegion ops (i :: rest) :: K)).roundOf = none := hro
    simp only [stepG.apply, Sem.runT_eq, hr, GStep.bare_after, if_true, hro', ht]
    rw [finish_op ho]; rfl
end steps

theorem putR_goes {d : Bool} {m : Machine} {b : Frame} {K : List Item} {cs : List Frame} {μ0 μ : Mu} {h0 : Hp} {w0 w : World} {s : St} {dst : Option Tmp} {v v' : Value} {a : Act} {u : FrameMode} {M : List Res}
    (e : putR s dst v = some M) (hm : Steps P m (lone (b.atR (a.put dst v') K) (setMd d u cs) w)) (ho : OKm P ng μ s.hp w) (hf : Fr μ0 h0 w0 μ s.hp w) (hs : StR μ s a) (hv : VR μ v v') (hu : MdR μ s.md u) :
    Goes P ng d m b K cs μ0 h0 w0 M := by
  unfold putR at e
  split at e
  · rename_i s' hp
    cases e
    obtain ⟨h1, h2, h3⟩ := putO_ok hp
    refine ⟨_, s', μ, w, _, u, .normal, List.mem_singleton.2 rfl, ⟨.normal, h1 ▸ ho, h1 ▸ hf, h3 hs hv, h2 ▸ hu⟩, hm⟩
  · cases e

theorem setMd_false (u : FrameMode) (cs : List Frame) : setMd false u cs = cs := by cases cs <;> rfl

/-- Behind a call. -/
theorem call_goes (hs : SumsOK P ng sm) (hr : RecOK P ng rec) {d : Bool} {f : FuncId} {args : List Value} {args' : Array Value} {s : St} {dst : Option Tmp} {M : List Res} (e : bindO (doCall sm rec f args s.hp) (afterCall s dst) = some M)
    {μ : Mu} {w : World} {b : Frame} {K1 K : List Item} {cs : List Frame} {a : Act} {u : FrameMode} (ho : OKm P ng μ s.hp w) (hst : StR μ s a) (hu : MdR μ s.md u) (hargs : LR μ args args'.toList)
    (hfin : ∀ v, (b.atR a K1).finish v = b.atR (a.put dst v) K) :
    Goes P ng d (lone (Frame.enter P f args' .normal) (b.atR a K1 :: setMd d u cs) w) b K cs μ s.hp w M := by
  obtain ⟨L, hL, hB⟩ := bindO_some e
  obtain ⟨r, μ1, w1, u1, e1, fr, hm, hd, hsteps, hk, hfn, hgo⟩ := doCall_ok hs hr hL μ w args'.toList (b.atR a K1 :: setMd d u cs) .run ho hargs (by simp) (by simp)
  rw [setMd_false, setMd_false] at hsteps
  simp only [Array.toArray_toList] at hsteps
  obtain ⟨N, hN, hNM⟩ := bindR_mem hB r hm
  cases hd with
  | ret ho1 hf1 hv _ =>
    have hl : fr.leaving P w1 (.returned _) := ⟨hgo.1, hgo.2.1, hk, hgo.2.2⟩
    refine Goes.mono hNM ?_
    have hstep := step_leave_returned (c := b.atR a K1) (cs := setMd d u cs) hl
    rw [hfin] at hstep
    exact putR_goes hN (hsteps.trans (.one hstep)) ho1 hf1 ((hst.mono hf1.le).1 |> fun t => ⟨t, (hst.mono hf1.le).2⟩) hv (hu.mono hf1.le)
  | pan ho1 hf1 hc _ =>
    have hl : fr.leaving P w1 (.panicked _) := hgo
    refine Goes.mono hNM ?_
    simp only [afterCall, Option.some.injEq] at hN
    subst hN
    have hstep := step_leave_panicked (c := b.atR a K1) (cs := setMd d u cs) hl
    rw [Frame.raise_atR] at hstep
    exact ⟨_, _, μ1, w1, a, u, _, List.mem_singleton.2 rfl, ⟨.panic hc, ho1, hf1, ⟨(hst.mono hf1.le).1, (hst.mono hf1.le).2⟩, hu.mono hf1.le⟩, K1, hsteps.trans (.one hstep)⟩

theorem round_goes (hr : RecOK P ng rec) {d : Bool} {l : Nat} {fn : FuncId} {tm : T Value} {ntm : Nat} {as bd : Code} {s : St} {dst : Option Tmp} {M : List Res} (e : bindO (rec (.round l fn tm ntm as bd s.hp)) (afterRound s dst) = some M)
    {μ : Mu} {w : World} {b : Frame} {K1 K : List Item} {cs : List Frame} {a : Act} {u : FrameMode} {x : Spot} {tmps : Array Value} (ho : OKm P ng μ s.hp w) (hst : StR μ s a) (hu : MdR μ s.md u) (hx : μ l = some x) (hx0 : x.sh = 0) (ht : TmR μ tm ntm tmps)
    (hfin : ∀ v, (b.atR a K1).finish v = b.atR (a.put dst v) K) :
    Goes P ng d (lone (Frame.round x.blk fn tmps as bd .normal) (b.atR a K1 :: setMd d u cs) w) b K cs μ s.hp w M := by
  obtain ⟨L, hL, hB⟩ := bindO_some e
  have hro : RoundOK P ng l fn tm ntm as bd s.hp L := hr _ _ hL
  obtain ⟨v, h', md, μ', w', v', hm, ho1, hf1, hv, hsteps⟩ := hro μ w x tmps (b.atR a K1) (setMd d u cs) ho hx hx0 ht
  obtain ⟨N, hN, hNM⟩ := bindR_mem hB _ hm
  rw [hfin] at hsteps
  exact Goes.mono hNM (putR_goes hN hsteps ho1 hf1 ⟨(hst.mono hf1.le).1, (hst.mono hf1.le).2⟩ hv (hu.mono hf1.le))

theorem recover_goes {k : Kd} {s : St} {dst : Option Tmp} {M : List Res} (e : recoverA k s dst = some M) {ops : Array Oper} {i : Nat} {rest : List Nat} {o : Oper} (hoi : ops[i]? = some o) (hdst : o.dst = dst)
    {μ : Mu} {w : World} {b : Frame} {K : List Item} {cs : List Frame} {a : Act} {u : FrameMode} (ho : OKm P ng μ s.hp w) (hk : KdR μ k b) (hcs : k.dfr = true → cs ≠ []) (hu : MdR μ s.md u) (hst : StR μ s a)
    (hw : Region.wanted o (yielded ops a.tmps) = true) (hr : (o.semAt b.roundOf a.eval).run P w = .ok .recover w) :
    Goes P ng k.dfr (lone (b.atR a (.inRegion ops (i :: rest) :: K)) (setMd k.dfr u cs) w) b (.inRegion ops rest :: K) cs μ s.hp w M := by
  unfold recoverA at e
  split at e
  · rename_i hrnd
    have hro : b.roundOf = none := by have := hk.ro; rw [hrnd] at this; exact this
    have hkind := hk.kind
    have hstep := fun cs => op_recover (P := P) (b := b) (a := a) (K := K) (cs := cs) (rest := rest) hoi hw hro hr
    subst hdst
    split at e
    · rename_i hd
      rw [hd] at hkind ⊢
      cases cs with
      | nil => exact absurd rfl (hcs hd)
      | cons c cs =>
        have hstep := hstep (setMd true u (c :: cs))
        have hkk : (b.atR a (.inRegion ops (i :: rest) :: K)).kind = .deferred := hkind
        have nil : tryRecover (b.atR a (.inRegion ops (i :: rest) :: K)) (setMd true u (c :: cs)) = none → putR s o.dst .nilIface = some M →
            Goes P ng true (lone (b.atR a (.inRegion ops (i :: rest) :: K)) (setMd true u (c :: cs)) w) b (.inRegion ops rest :: K) (c :: cs) μ s.hp w M := by
          intro hn he
          rw [hn] at hstep
          exact putR_goes he (.one hstep) ho (Fr.refl _ _ _) hst .nilIface hu
        split at e
        · rename_i v older hmd
          rw [hmd] at hu
          cases hu with
          | panicking hc =>
            cases hc with
            | cons he hc =>
              rename_i e' c'
              obtain ⟨v', r', g'⟩ := e'
              obtain ⟨hv, hr1, hg1⟩ := he
              simp only at hv hr1 hg1
              subst hr1; subst hg1
              have ht : tryRecover (b.atR a (.inRegion ops (i :: rest) :: K)) (setMd true (.panicking ({ v := v', recovered := false, goexit := false } :: c')) (c :: cs)) =
                  some (v', setMd true (.panicking ({ v := v', recovered := true } :: c')) (c :: cs)) := by
                simp [tryRecover, hkk, setMd]
              rw [ht] at hstep
              exact putR_goes (s := { s with md := .panicking ({ v, recovered := true } :: older) }) e (.one hstep) ho (Fr.refl _ _ _) ⟨hst.1, hst.2⟩ hv (.panicking (.cons ⟨hv, rfl, rfl⟩ hc))
        · rename_i hno
          refine nil ?_ e
          unfold tryRecover
          rw [hkk]
          simp only [setMd]
          generalize s.md = md at hu hno
          cases hu with
          | run => rfl
          | returning => rfl
          | panicking hc =>
            cases hc with
            | nil => rfl
            | cons he hc =>
              rename_i e0 e0' c0 c0'
              obtain ⟨v0, r0, g0⟩ := e0
              obtain ⟨v0', r0', g0'⟩ := e0'
              obtain ⟨_, hr1, hg1⟩ := he
              simp only at hr1 hg1
              subst hr1; subst hg1
              cases r0' <;> cases g0' <;> first
                | rfl
                | exact absurd rfl (hno v0 c0)
    · rename_i hd
      rw [hd] at hkind ⊢
      rw [setMd_false]
      have hstep := hstep cs
      have hkk : (b.atR a (.inRegion ops (i :: rest) :: K)).kind = .normal := hkind
      have ht : tryRecover (b.atR a (.inRegion ops (i :: rest) :: K)) cs = none := by
        unfold tryRecover
        rw [hkk]
      rw [ht] at hstep
      exact putR_goes (u := u) e (.one (by rw [setMd_false]; exact hstep)) ho (Fr.refl _ _ _) hst .nilIface hu
  · cases e

theorem stepOp_ok (hs : SumsOK P ng sm) (hrec : RecOK P ng rec) {k : Kd} {ops : Array Oper} {o : Oper} {s : St} {M : List Res} (e : stepOp P ng sm rec k ops o s = some M) {i : Nat} {rest : List Nat} (hoi : ops[i]? = some o)
    {μ : Mu} {w : World} {b : Frame} {K : List Item} {cs : List Frame} {a : Act} {u : FrameMode} (ho : OKm P ng μ s.hp w) (hk : KdR μ k b) (hcs : k.dfr = true → cs ≠ []) (hu : MdR μ s.md u) (hst : StR μ s a) :
    Goes P ng k.dfr (lone (b.atR a (.inRegion ops (i :: rest) :: K)) (setMd k.dfr u cs) w) b (.inRegion ops rest :: K) cs μ s.hp w M := by
  unfold stepOp at e
  split at e
  · rename_i hw
    have hw := wantedA_ok hst.tm hw
    have hstep := stepR_op_skip (P := P) (b := b) (a := a) (k := K) (cs := setMd k.dfr u cs) (w := w) (ops := ops) (i := i) (rest := rest) (by simp [hoi, hw])
    simp only [hoi, Option.bind_some] at hstep
    exact putR_goes e (.one hstep) ho (Fr.refl _ _ _) hst (gr_refl 2 _ rfl) hu
  · rename_i hw
    have hw := wantedA_ok hst.tm hw
    split at e
    · rename_i L hL
      obtain ⟨q, hq, hok⟩ := aop_ok ho.wr (fun x v hx => evalX_ok ho.gl hst.tm hx) hL (fun q _ => ho.fresh _)
      obtain ⟨N, hN, hNM⟩ := bindR_mem e q hq
      refine Goes.mono hNM ?_
      have sem : ∀ {r : Result Next}, (execOp a.eval o).run P w = r → ((∀ c, o.op ≠ .defer c) ∨ k.rnd = none) → (o.semAt b.roundOf a.eval).run P w = r := fun h1 h2 => by rw [hk.semAt _ _ h2]; exact h1
      have nd : ∀ {r : Result Next}, (execOp a.eval o).run P w = r → (∀ d w', r ≠ .ok (.defer d) w') → (∀ x w', r ≠ .halt x w') → ∀ c, o.op ≠ .defer c := by
        intro r h1 h2 h3 c hc
        obtain ⟨dst, op, type, pos, after, guard⟩ := o
        simp only at hc
        subst hc
        simp only [execOp, Sem.run_bind] at h1
        cases hres : (resolve a.eval c type).run P w with
        | ok d w' => rw [hres] at h1; exact h2 d w' h1.symm
        | halt x w' => rw [hres] at h1; exact h3 x w' h1.symm
      cases q with
      | val v h' =>
        obtain ⟨μ', n, v', w', hrun, hn, hv, hwr, hf⟩ := hok
        have ho' := ho.step hwr hf
        rcases hn with rfl | ⟨rfl, rfl⟩
        · have hstep := op_value (b := b) (K := K) (cs := setMd k.dfr u cs) (rest := rest) hoi hw (sem hrun (.inl (nd hrun (by simp) (by simp))))
          exact putR_goes (s := { s with hp := h' }) hN (.one hstep) ho' hf ⟨hst.1.mono hf.le, hst.2.mono hf.le⟩ hv (hu.mono hf.le)
        · have hstep := op_skip (b := b) (K := K) (cs := setMd k.dfr u cs) (rest := rest) hoi hw (sem hrun (.inl (nd hrun (by simp) (by simp))))
          exact putR_goes (s := { s with hp := h' }) hN (.one hstep) ho' hf ⟨hst.1.mono hf.le, hst.2.mono hf.le⟩ hv (hu.mono hf.le)
      | pan v h' =>
        obtain ⟨rfl, v', hrun, hv⟩ := hok
        simp only [after1, Option.some.injEq] at hN
        subst hN
        have hdf : (∀ c, o.op ≠ .defer c) := by
          intro c hc
          obtain ⟨dst, op, type, pos, after, guard⟩ := o
          simp only at hc
          subst hc
          simp only [execOp, Sem.run_bind] at hrun
          have hnp : ∀ x, (resolve a.eval c type).run P w ≠ .halt (.panic x) w := by
            intro x hx
            unfold resolve at hx
            cases hc : c.callee with
            | builtin _ => rw [hc] at hx; cases hx
            | invoke _ _ => rw [hc] at hx; cases hx
            | value g =>
              rw [hc] at hx
              simp only at hx
              unfold Deferred.ofValue at hx
              split at hx <;> cases hx
          cases hres : (resolve a.eval c type).run P w with
          | ok d w' => rw [hres] at hrun; cases hrun
          | halt x w' =>
            rw [hres] at hrun
            simp only [Result.andThen] at hrun
            cases hrun
            exact hnp _ hres
        have hstep := op_panic (b := b) (K := K) (cs := setMd k.dfr u cs) (rest := rest) hoi hw (sem hrun (.inl hdf))
        exact ⟨_, _, μ, w, a, u, .panic [{ v := v', recovered := false }], List.mem_singleton.2 rfl, ⟨.panic (.cons ⟨hv, rfl, rfl⟩ .nil), ho, Fr.refl _ _ _, hst, hu⟩, _, .one hstep⟩
      | ent f args h' =>
        obtain ⟨rfl, _, args', hrun, hargs⟩ := hok
        have hstep := op_enter (b := b) (K := K) (cs := setMd k.dfr u cs) (rest := rest) hoi hw (sem hrun (.inl (nd hrun (by simp) (by simp))))
        exact (call_goes (s := s) hs hrec hN ho hst hu hargs (fun v => finish_op hoi v)).head (.one hstep)
      | rnd l fn tm ntm as bd h' =>
        obtain ⟨rfl, x, tmps, hx, hx0, hrun, ht⟩ := hok
        have hstep := op_round (b := b) (K := K) (cs := setMd k.dfr u cs) (rest := rest) hoi hw (sem hrun (.inl (nd hrun (by simp) (by simp))))
        exact Goes.head (.one hstep) (round_goes (s := s) hrec hN ho hst hu hx hx0 ht (fun v => finish_op hoi v))
      | dfr d h' =>
        obtain ⟨rfl, d', hrun, hd⟩ := hok
        simp only [after1] at hN
        split at hN
        · rename_i hrnd
          have hstep := op_defer (b := b) (K := K) (cs := setMd k.dfr u cs) (rest := rest) hoi hw (sem hrun (.inr hrnd))
          refine putR_goes (s := { s with df := d :: s.df }) (a := { a with defers := d' :: a.defers }) hN (.one hstep) ho (Fr.refl _ _ _) ⟨hst.1, ?_⟩ (gr_refl 2 _ rfl) hu
          refine ⟨by simp [hst.2.1], fun i x y hx hy => ?_⟩
          cases i with
          | zero => simp at hx hy; subst hx; subst hy; exact hd
          | succ i => exact hst.2.2 i x y (by simpa using hx) (by simpa using hy)
        · cases hN
      | rcv h' =>
        obtain ⟨rfl, hrun⟩ := hok
        simp only [after1] at hN
        exact recover_goes hN hoi rfl ho hk hcs hu hst hw (sem hrun (.inl (nd hrun (by simp) (by simp))))
    · cases e
  · cases e

end
end Go.Ev

/-! Code: sequences, conditions, blocks, loops; regions in the text's order; rounds; functions' frames. -/
namespace Go.Ev
open Go

section
variable {P : Program} {ng : Nat} {sm : Sums} {rec : Tk → Out}

inductive Zip (ops : Array Oper) : List Nat → List Oper → Prop where
  | nil : Zip ops [] []
  | cons {i o is os} : ops[i]? = some o → Zip ops is os → Zip ops (i :: is) (o :: os)

theorem zip_from (ops : Array Oper) : ∀ (os : List Oper) (s : Nat), (∀ (j : Nat) o, os[j]? = some o → ops[s + j]? = some o) → Zip ops (List.range' s os.length) os
  | [], _, _ => .nil
  | o :: os, s, h => by
    rw [List.length_cons, List.range'_succ]
    refine .cons (by simpa using h 0 o (by simp)) (zip_from ops os (s + 1) fun j x hx => ?_)
    have := h (j + 1) x (by simpa using hx)
    rw [show s + 1 + j = s + (j + 1) by omega]; exact this

theorem zip_all (ops : Array Oper) : Zip ops (List.range ops.size) ops.toList := by
  have := zip_from ops ops.toList 0 (fun j o h => by simpa using h)
  rw [List.range_eq_range']
  simpa using this

theorem runOps_ok (hs : SumsOK P ng sm) (hrec : RecOK P ng rec) {k : Kd} {ops : Array Oper} : ∀ {os : List Oper} {is : List Nat} {s : St} {M : List Res}, Zip ops is os → runOps P ng sm rec k ops os s = some M →
    ∀ {μ : Mu} {w : World} {b : Frame} {K : List Item} {cs : List Frame} {a : Act} {u : FrameMode}, OKm P ng μ s.hp w → KdR μ k b → (k.dfr = true → cs ≠ []) → MdR μ s.md u → StR μ s a →
    Goes P ng k.dfr (lone (b.atR a (.inRegion ops is :: K)) (setMd k.dfr u cs) w) b K cs μ s.hp w M
  | [], _, s, M, z, e, μ, w, b, K, cs, a, u, ho, hk, hcs, hu, hst => by
    cases z
    simp only [runOps, Option.some.injEq] at e
    subst e
    exact ⟨_, s, μ, w, a, u, .normal, List.mem_singleton.2 rfl, ⟨.normal, ho, Fr.refl _ _ _, hst, hu⟩, .one stepR_region_end⟩
  | o :: os, _, s, M, z, e, μ, w, b, K, cs, a, u, ho, hk, hcs, hu, hst => by
    cases z with
    | cons hoi z =>
      unfold runOps at e
      obtain ⟨L, hL, hB⟩ := bindO_some e
      refine Goes.bind (fun id => rfl) (stepOp_ok hs hrec hL hoi ho hk hcs hu hst) hB ?_ ?_
      · intro s1 μ1 w1 a1 u1 N hN hf ho1 hst1 hu1
        exact runOps_ok hs hrec z hN ho1 (hk.mono hf.le) hcs hu1 hst1
      · intro x s1 hx
        cases x <;> first | rfl | exact absurd rfl hx

/-! ### Code -/
theorem code_one {k : Kd} {c : Code} {s : St} {x : Ex} {e : Exit} (hx : ∀ μ, ExR μ x e)
    (h : ∀ (b : Frame) (K : List Item) (cs : List Frame) (a : Act) (w : World), Arr P (lone (b.atR a (.code c :: K)) cs w) b K cs a w e) : CodeOK P ng k c s [.out x s] := by
  intro μ w b K cs a u ho hk hcs hu hst
  exact ⟨x, s, μ, w, a, u, e, List.mem_singleton.2 rfl, ⟨hx _, ho, Fr.refl _ _ _, hst, hu⟩, h b K _ a w⟩

theorem seq_ok (hrec : RecOK P ng rec) {k : Kd} {x y : Code} {s : St} {M : List Res}
    (e : bindO (rec (.code k x s)) (fun
      | .out .normal s => rec (.code k y s)
      | .out x s => some [.out x s]
      | _ => none) = some M) : CodeOK P ng k (.seq x y) s M := by
  intro μ w b K cs a u ho hk hcs hu hst
  obtain ⟨L, hL, hB⟩ := bindO_some e
  have hx : CodeOK P ng k x s L := hrec _ _ hL
  refine Goes.head (.one stepR_seq) (Goes.bind (I := .code y) (fun id => rfl) (hx μ w b (.code y :: K) cs a u ho hk hcs hu hst) hB ?_ ?_)
  · intro s1 μ1 w1 a1 u1 N hN hf ho1 hst1 hu1
    have hy : CodeOK P ng k y s1 N := hrec _ _ hN
    exact hy μ1 w1 b K cs a1 u1 ho1 (hk.mono hf.le) hcs hu1 hst1
  · intro x s1 hx
    cases x <;> first | rfl | exact absurd rfl hx

theorem loop_ok (hrec : RecOK P ng rec) {k : Kd} {c : Code} {s : St} {M : List Res} (e : loopA rec k c s = some M) {μ : Mu} {w : World} {b : Frame} {K : List Item} {cs : List Frame} {a : Act} {u : FrameMode}
    (ho : OKm P ng μ s.hp w) (hk : KdR μ k b) (hcs : k.dfr = true → cs ≠ []) (hu : MdR μ s.md u) (hst : StR μ s a) :
    Goes P ng k.dfr (lone (b.atR a (.code c :: .inLoop c :: K)) (setMd k.dfr u cs) w) b K cs μ s.hp w M := by
  obtain ⟨L, hL, hB⟩ := bindO_some e
  have hx : CodeOK P ng k c s L := hrec _ _ hL
  refine Goes.bind (I := .inLoop c) (fun id => rfl) (hx μ w b (.inLoop c :: K) cs a u ho hk hcs hu hst) hB ?_ ?_
  · intro s1 μ1 w1 a1 u1 N hN hf ho1 hst1 hu1
    have hy : LoopOK P ng k c s1 N := hrec _ _ hN
    exact hy μ1 w1 b K cs a1 u1 ho1 (hk.mono hf.le) hcs hu1 hst1
  · intro x s1 hx
    cases x <;> first | rfl | exact absurd rfl hx

theorem block_ok (hrec : RecOK P ng rec) {k : Kd} {id : Nat} {c : Code} {s : St} {M : List Res}
    (e : bindO (rec (.code k c s)) (fun
      | .out (.exit i) s => match Nat.beq i id with
        | true => some [.out .normal s]
        | false => some [.out (.exit i) s]
      | .out x s => some [.out x s]
      | _ => none) = some M) : CodeOK P ng k (.block id c) s M := by
  intro μ w b K cs a u ho hk hcs hu hst
  obtain ⟨L, hL, hB⟩ := bindO_some e
  have hx : CodeOK P ng k c s L := hrec _ _ hL
  obtain ⟨x, s1, μ1, w1, a1, u1, e1, hm, hf, ha⟩ := hx μ w b (.inBlock id :: K) cs a u ho hk hcs hu hst
  refine Goes.head (.one stepR_block) ?_
  obtain ⟨N, hN, hNM⟩ := bindR_mem hB _ hm
  refine Goes.mono hNM ?_
  have hE := hf.ex
  cases hE with
  | normal =>
    simp only [Option.some.injEq] at hN
    subst hN
    exact ⟨_, s1, μ1, w1, a1, u1, .normal, List.mem_singleton.2 rfl, hf, Steps.trans ha (.one stepR_inBlock)⟩
  | exit i =>
    obtain ⟨K1, p, q⟩ := ha
    simp only at hN
    split at hN
    · rename_i hi
      cases hN
      have hi := Nat.eq_of_beq_eq_true hi
      subst hi
      have p : exitTo i K1 = some K := by rw [p]; simp [exitTo]
      exact ⟨_, s1, μ1, w1, a1, u1, .normal, List.mem_singleton.2 rfl, ⟨.normal, hf.ok, hf.fr, hf.st, hf.md⟩, Steps.trans q (.one (stepR_exit p))⟩
    · rename_i hi
      cases hN
      have hi : ¬ id = i := fun h => by subst h; rw [show Nat.beq id id = true by simp] at hi; cases hi
      exact ⟨_, s1, μ1, w1, a1, u1, .exit i, List.mem_singleton.2 rfl, hf, K1, by rw [p]; simp [exitTo, hi], q⟩
  | ret =>
    simp only [Option.some.injEq] at hN
    subst hN
    exact ⟨_, s1, μ1, w1, a1, u1, .ret, List.mem_singleton.2 rfl, hf, ha⟩
  | panic hc =>
    simp only [Option.some.injEq] at hN
    subst hN
    exact ⟨_, s1, μ1, w1, a1, u1, .panic _, List.mem_singleton.2 rfl, hf, ha⟩

/-! ### Rounds -/
theorem loopObj {μ : Mu} {h : Hp} {w : World} (ho : OKm P ng μ h w) {l : Nat} {x : Spot} (hx : μ l = some x) {st : LoopState} {pend : Option Code} {fn : FuncId} {tm : T Value} {ntm : Nat} {ps : List Tmp} {as bd : Code} {d : Nat}
    (hg : h.get l = some (.loop st pend fn tm ntm ps as bd d)) : ∃ xd tmps, x.sh = 0 ∧ TmR μ tm ntm tmps ∧ μ d = some xd ∧ xd.sh = 0 ∧ h.live l ∧
      w.heap[x.blk]? = some (.loop { state := st, pending := pend, fn := fn, tmps := tmps, params := ps.toArray, assign := as, body := bd, defers := xd.blk }) := by
  obtain ⟨l', o', h1, h2, h3⟩ := ho.wr.live l _ hg rfl
  rw [hx] at h1; cases h1
  cases h3 with
  | loop b1 b2 b3 b4 => exact ⟨_, _, b1, b2, b3, b4, ⟨_, hg, rfl⟩, h2⟩

theorem getLoop_run {w : World} {b : Nat} {r : Loop} (h : w.heap[b]? = some (.loop r)) : (Instr.getLoop b).run P w = .ok r w := by
  have := run_getObj (P := P) h (fun _ _ _ h => by cases h)
  simp [Instr.getLoop, this]

theorem setLoop_ok {μ : Mu} {h : Hp} {w : World} (ho : OKm P ng μ h w) {l : Nat} {x : Spot} (hx : μ l = some x) {st : LoopState} {pend : Option Code} {fn : FuncId} {tm : T Value} {ntm : Nat} {ps : List Tmp} {as bd : Code} {d : Nat} {xd : Spot} {tmps : Array Value}
    (hl : h.live l) (h0 : x.sh = 0) (ht : TmR μ tm ntm tmps) (hd : μ d = some xd) (hd0 : xd.sh = 0) {o : Obj} (hw : w.heap[x.blk]? = some o) (hnc : ∀ a b c, o ≠ .cells a b c) :
    ∃ w', (setObj x.blk (.loop { state := st, pending := pend, fn := fn, tmps := tmps, params := ps.toArray, assign := as, body := bd, defers := xd.blk })).run P w = .ok () w' ∧
      OKm P ng μ (h.put l (.loop st pend fn tm ntm ps as bd d)) w' ∧ Fr μ h w μ (h.put l (.loop st pend fn tm ntm ps as bd d)) w' := by
  obtain ⟨r, f⟩ := ho.wr.put (o := .loop st pend fn tm ntm ps as bd d) hl hx (.loop h0 ht hd hd0) (fun y hy => by rw [hw] at hy; cases hy; exact SameRow.no fun a b c => hnc a b c)
  exact ⟨_, run_setObj (P := P) _ hw hnc, ho.step r f, f⟩

theorem round_ok (hrec : RecOK P ng rec) {l : Nat} {fn : FuncId} {tm : T Value} {ntm : Nat} {as bd : Code} {h : Hp} {M : List Res} (e : roundA rec l fn tm ntm as bd h = some M) : RoundOK P ng l fn tm ntm as bd h M := by
  intro μ w x tmps c cs ho hx hx0 ht
  obtain ⟨L, hL, hB⟩ := bindO_some e
  let b : Frame := { (default : Frame) with fn := fn, kind := .normal, roundOf := some x.blk }
  have hb0 : Frame.round x.blk fn tmps as bd .normal = b.atR { tmps := tmps, defers := [] } [.code as, .beginRound, .code bd] := by
    simp [Frame.round, Frame.atR, b]
  have hk : KdR μ ⟨fn, false, some l⟩ b := ⟨rfl, rfl, x, hx, hx0, rfl⟩
  have hcode : CodeOK P ng ⟨fn, false, some l⟩ as ⟨tm, ntm, [], h, .run⟩ L := hrec _ _ hL
  obtain ⟨x1, s1, μ1, w1, a1, u1, e1, hm, hf, ha⟩ := hcode μ w b [.beginRound, .code bd] (c :: cs) { tmps := tmps, defers := [] } .run ho hk (by simp) .run ⟨ht, ⟨rfl, fun i x y hx _ => by simp at hx⟩⟩
  obtain ⟨N, hN, hNM⟩ := bindR_mem hB _ hm
  have hE := hf.ex
  cases hE with
  | exit id => simp at hN
  | ret => simp at hN
  | panic hc => simp at hN
  | normal =>
    simp only at hN
    split at hN
    · rename_i h1 hbr
      unfold beginRoundA at hbr
      split at hbr
      · rename_i pend fn' tm' ntm' ps' as' bd' d' hg
        cases hbr
        have hx1 := hf.fr.le _ _ hx
        obtain ⟨xd, tmps', _, c2, c3, c4, c5, c6⟩ := loopObj hf.ok hx1 hg
        obtain ⟨w2, hset, ho2, hf2⟩ := setLoop_ok (st := .busy) (pend := pend) (fn := fn') (ps := ps') (as := as') (bd := bd') hf.ok hx1 c5 hx0 c2 c3 c4 c6 (fun _ _ _ h => by cases h)
        have hbegin : (Instr.beginRound x.blk).run P w1 = .ok () w2 := by
          unfold Instr.beginRound
          simp only [Sem.run_bind, getLoop_run c6, Result.andThen_ok, hset]
          rfl
        rw [setMd_false] at ha
        have hstep1 : Steps P (lone (Frame.round x.blk fn tmps as bd .normal) (c :: cs) w) (lone (b.atR a1 [.code bd]) (c :: cs) w2) := by
          rw [hb0]
          exact Steps.trans ha (.one (stepR_beginRound rfl hbegin))
        obtain ⟨L2, hL2, hB2⟩ := bindO_some hN
        have hcode2 : CodeOK P ng ⟨fn, false, some l⟩ bd { s1 with hp := s1.hp.put l (.loop .busy pend fn' tm' ntm' ps' as' bd' d') } L2 := hrec _ _ hL2
        have hk2 : KdR μ1 ⟨fn, false, some l⟩ b := hk.mono hf.fr.le
        obtain ⟨x3, s3, μ3, w3, a3, u3, e3, hm3, hf3, ha3⟩ := hcode2 μ1 w2 b [] (c :: cs) a1 u1 ho2 hk2 (by simp) hf.md ⟨hf.st.1, hf.st.2⟩
        obtain ⟨N3, hN3, hNM3⟩ := bindR_mem hB2 _ hm3
        rw [setMd_false, setMd_false] at ha3
        have hx3 := hf3.fr.le _ _ hx1
        have fin : ∀ (jump : Option Code), endRoundA l jump s3.hp = some N3 → (∀ v w', (Instr.endRound x.blk jump).run P w3 = .ok v w' → Steps P (lone (b.atR a1 [.code bd]) (c :: cs) w2) (lone (c.finish v) cs w')) →
            ∃ v h' md μ' w' v', Res.ret v h' md ∈ M ∧ OKm P ng μ' h' w' ∧ Fr μ h w μ' h' w' ∧ VR μ' v v' ∧
              Steps P (lone (Frame.round x.blk fn tmps as bd .normal) (c :: cs) w) (lone (c.finish v') cs w') := by
          intro jump he hgo
          unfold endRoundA at he
          split at he
          · rename_i fn4 tm4 ntm4 ps4 as4 bd4 d4 hg4
            obtain ⟨xd4, tmps4, _, g2, g3, g4, g5, g6⟩ := loopObj hf3.ok hx3 hg4
            cases jump with
            | none =>
              simp only [Option.some.injEq] at he
              subst he
              obtain ⟨w5, hset5, ho5, hf5⟩ := setLoop_ok (st := .ready) (pend := none) (fn := fn4) (ps := ps4) (as := as4) (bd := bd4) hf3.ok hx3 g5 hx0 g2 g3 g4 g6 (fun _ _ _ h => by cases h)
              have hend : (Instr.endRound x.blk none).run P w3 = .ok (.bool true) w5 := by
                unfold Instr.endRound
                simp [getLoop_run g6, hset5]
              exact ⟨_, _, _, μ3, w5, .bool true, hNM _ (hNM3 _ (List.mem_singleton.2 rfl)), ho5, ((hf.fr.trans hf2).trans hf3.fr).trans hf5, .bool true, hstep1.trans (hgo _ _ hend)⟩
            | some j =>
              simp only [Option.some.injEq] at he
              subst he
              obtain ⟨w5, hset5, ho5, hf5⟩ := setLoop_ok (st := .done) (pend := some j) (fn := fn4) (ps := ps4) (as := as4) (bd := bd4) hf3.ok hx3 g5 hx0 g2 g3 g4 g6 (fun _ _ _ h => by cases h)
              have hend : (Instr.endRound x.blk (some j)).run P w3 = .ok (.bool false) w5 := by
                unfold Instr.endRound
                simp [getLoop_run g6, hset5]
              exact ⟨_, _, _, μ3, w5, .bool false, hNM _ (hNM3 _ (List.mem_singleton.2 rfl)), ho5, ((hf.fr.trans hf2).trans hf3.fr).trans hf5, .bool false, hstep1.trans (hgo _ _ hend)⟩
          · cases he
        have hE3 := hf3.ex
        cases hE3 with
        | normal =>
          refine fin none hN3 fun v w' hend => ?_
          exact Steps.trans ha3 (.one (stepR_round_end rfl rfl hend))
        | ret =>
          obtain ⟨K1, q⟩ := ha3
          refine fin (some .ret) hN3 fun v w' hend => ?_
          exact Steps.trans q (.one (stepR_round_ret rfl rfl hend))
        | exit id =>
          obtain ⟨K1, p, q⟩ := ha3
          refine fin (some (.exit id)) hN3 fun v w' hend => ?_
          exact Steps.trans q (.one (stepR_round_exit rfl rfl p hend))
        | panic hc => simp at hN3
      · cases hbr
    · cases hN

end
end Go.Ev

/-! Functions' frames: results, deferred calls; ranges over functions. -/
namespace Go.Ev
open Go

section
variable {P : Program} {ng : Nat} {sm : Sums} {rec : Tk → Out}

def resOne (tmps : Array Value) : ResultVar → Sem Value
  | .tmp t => pure (tmps.getD t undef)
  | .cell a t => do loadVar t (← asAddr (tmps.getD a undef))

theorem results_eq (fn : Func) (tmps : Array Value) : results fn tmps = (do let vs ← fn.results.mapM (resOne tmps); pure (if h : vs.size = 1 then vs[0] else .tuple vs)) := by
  unfold results
  congr 1

theorem results1_ok {μ : Mu} {h : Hp} {w : World} (r : WR P μ h w) {tm : T Value} {n : Nat} {tmps : Array Value} (ht : TmR μ tm n tmps) {rv : ResultVar} {v : Value} (e : results1 P tm h rv = some v) :
    ∃ v', (resOne tmps rv).run P w = .ok v' w ∧ VR μ v v' := by
  cases rv with
  | tmp t =>
    simp only [results1] at e
    split at e
    · rename_i hb
      obtain ⟨v', h1, h2⟩ := ht.2.2 t v (by simpa [Nat.blt_eq] using hb) e
      exact ⟨v', by simp [resOne, h1], h2⟩
    · cases e
  | cell a t =>
    simp only [results1] at e
    split at e
    · rename_i hb
      split at e
      · rename_i p hp
        obtain ⟨p', h1, h2⟩ := ht.2.2 a p (by simpa [Nat.blt_eq] using hb) hp
        obtain ⟨v', h3, h4⟩ := aLoad_ok r h2 e
        have hpp : ∃ b o, p = .pointer (some ⟨b, o, none⟩) := by
          unfold aLoad at e
          split at e
          · exact ⟨_, _, rfl⟩
          · cases e
        obtain ⟨b, o, rfl⟩ := hpp
        obtain ⟨x, hx, _, rfl⟩ := h2.ptr_inv
        refine ⟨v', ?_, h4⟩
        simp only [Instr.loadAt, Instr.sureAddr, Sem.run_bind, Sem.run_pure, Result.andThen_ok] at h3
        simp [resOne, h1, asAddr, h3]
      · cases e
    · cases e

theorem resultsL_ok {μ : Mu} {h : Hp} {w : World} (r : WR P μ h w) {tm : T Value} {n : Nat} {tmps : Array Value} (ht : TmR μ tm n tmps) : ∀ {rs : List ResultVar} {vs : List Value}, resultsL P tm h rs = some vs →
    ∃ vs', (rs.mapM (resOne tmps)).run P w = .ok vs' w ∧ LR μ vs vs'
  | [], vs, e => by
    simp only [resultsL, Option.some.injEq] at e
    subst e
    exact ⟨[], by simp, LR.nil _⟩
  | rv :: rs, vs, e => by
    unfold resultsL at e
    split at e
    · rename_i v hv
      split at e
      · rename_i vs' hvs
        cases e
        obtain ⟨v', h1, h2⟩ := results1_ok r ht hv
        obtain ⟨us, h3, h4⟩ := resultsL_ok r ht hvs
        exact ⟨v' :: us, by simp [List.mapM_cons, h1, h3], LR.cons h2 h4⟩
      · cases e
    · cases e

theorem resultsA_ok {μ : Mu} {h : Hp} {w : World} (r : WR P μ h w) {tm : T Value} {n : Nat} {tmps : Array Value} (ht : TmR μ tm n tmps) {fn : Func} {v : Value} (e : resultsA P fn tm h = some v) :
    ∃ v', (results fn tmps).run P w = .ok v' w ∧ VR μ v v' := by
  unfold resultsA at e
  cases hL : resultsL P tm h fn.results.toList with
  | none => rw [hL] at e; cases e
  | some vs =>
    obtain ⟨vs', h1, h2⟩ := resultsL_ok r ht hL
    have hm : (fn.results.mapM (resOne tmps)).run P w = .ok vs'.toArray w := by
      rw [Array.mapM_eq_mapM_toList, ← bind_pure_comp]
      simp [h1]
    have hrun : (results fn tmps).run P w = .ok (if h : vs'.toArray.size = 1 then vs'.toArray[0] else .tuple vs'.toArray) w := by
      rw [results_eq]; simp [hm]
    rw [hL] at e
    refine ⟨_, hrun, ?_⟩
    cases vs with
    | nil =>
      cases e
      have : vs' = [] := by have := h2.1; simp at this; exact List.eq_nil_of_length_eq_zero this.symm
      subst this
      have := h2.toArray
      exact .tuple this.1 this.2
    | cons a as =>
      cases as with
      | nil =>
        cases e
        cases vs' with
        | nil => have := h2.1; simp at this
        | cons b bs =>
          have : bs = [] := by have := h2.1; simp at this; exact this.symm ▸ rfl
          subst this
          simpa using h2.uncons.1
      | cons a2 as =>
        cases e
        have hne : ¬ vs'.toArray.size = 1 := by have := h2.1; simp at this ⊢; omega
        rw [dif_neg hne]
        have := h2.toArray
        exact .tuple this.1 this.2

theorem settle_ok {μ : Mu} {u u' : FrameMode} (h : MdR μ u u') : MdR μ (settleA u) (settle u') := by
  cases h with
  | run => exact .run
  | returning => exact .returning
  | panicking hc =>
    cases hc with
    | nil => exact .panicking .nil
    | cons he hc =>
      rename_i e e' c c'
      obtain ⟨v, r, g⟩ := e
      obtain ⟨v', r', g'⟩ := e'
      obtain ⟨hv, hr, hg⟩ := he
      simp only at hv hr hg
      subst hr; subst hg
      cases r' with
      | false => exact .panicking (.cons ⟨hv, rfl, rfl⟩ hc)
      | true =>
        have drop : ∀ {c c' : List PanicEntry}, ChR μ c c' → ChR μ (c.dropWhile (!·.goexit)) (c'.dropWhile (!·.goexit)) := by
          intro c c' h
          induction h with
          | nil => exact .nil
          | cons he h ih =>
            rename_i e e' c c'
            simp only [List.dropWhile_cons, he.g]
            split
            · exact ih
            · exact .cons he h
        have hd := drop hc
        simp only [settleA, settle]
        generalize c.dropWhile (!·.goexit) = x at hd
        generalize c'.dropWhile (!·.goexit) = y at hd
        cases hd with
        | nil => exact .returning
        | cons a b => exact .panicking (.cons a b)

theorem raised_ok {μ : Mu} {u u' : FrameMode} {c c' : List PanicEntry} (h : MdR μ u u') (hc : ChR μ c c') : MdR μ (raisedA u c) (raised u' c') := by
  cases h with
  | run => exact .panicking hc
  | returning => exact .panicking hc
  | panicking h => exact .panicking (hc.app h)

theorem settle_run {u : FrameMode} (h : settle u = .run) : u = .run := by
  unfold settle at h
  split at h
  · split at h <;> cases h
  · exact h

theorem CallGoes.head {d : Bool} {f : FuncId} {m m1 : Machine} {cs : List Frame} {μ0 : Mu} {h0 : Hp} {w0 : World} {L : List Res} (h : Steps P m m1) (g : CallGoes P ng d f m1 cs μ0 h0 w0 L) : CallGoes P ng d f m cs μ0 h0 w0 L := by
  obtain ⟨r, μ, w, u, e, fr, h1, h2, h3, h4⟩ := g
  exact ⟨r, μ, w, u, e, fr, h1, h2, h.trans h3, h4⟩

theorem CallGoes.mono {d : Bool} {f : FuncId} {m : Machine} {cs : List Frame} {μ0 : Mu} {h0 : Hp} {w0 : World} {L M : List Res} (h : ∀ r ∈ L, r ∈ M) (g : CallGoes P ng d f m cs μ0 h0 w0 L) : CallGoes P ng d f m cs μ0 h0 w0 M := by
  obtain ⟨r, μ, w, u, e, fr, h1, h2⟩ := g
  exact ⟨r, μ, w, u, e, fr, h _ h1, h2⟩

theorem DoneR.from {d : Bool} {μ0 μ1 μ : Mu} {h0 h1 : Hp} {w0 w1 w : World} {u : FrameMode} {r : Res} {e : Ending} (f : Fr μ0 h0 w0 μ1 h1 w1) (g : DoneR P ng d μ1 h1 w1 μ w u r e) : DoneR P ng d μ0 h0 w0 μ w u r e := by
  cases g with
  | ret a b c d => exact .ret a (f.trans b) c d
  | pan a b c d => exact .pan a (f.trans b) c d

theorem CallGoes.from {d : Bool} {f : FuncId} {m : Machine} {cs : List Frame} {μ0 μ1 : Mu} {h0 h1 : Hp} {w0 w1 : World} {L : List Res} (fr : Fr μ0 h0 w0 μ1 h1 w1) (g : CallGoes P ng d f m cs μ1 h1 w1 L) : CallGoes P ng d f m cs μ0 h0 w0 L := by
  obtain ⟨r, μ, w, u, e, fr2, a1, a2, a3⟩ := g
  exact ⟨r, μ, w, u, e, fr2, a1, a2.from fr, a3⟩

/-- A frame on its way out. -/
theorem unwind_ok (hrec : RecOK P ng rec) (hng : ∀ (g : FuncId) (fn : Func), P.funcs[g]? = some fn → ¬ fn.name = "runtime.NumGoroutine") {fn : Func} {d : Bool} {tm : T Value} {n : Nat} {md : FrameMode} {f : FuncId} :
    ∀ {ds : List Deferred} {h : Hp} {uA : FrameMode} {M : List Res}, unwindA P rec fn tm md ds h uA = some M →
    ∀ {μ : Mu} {w : World} {fr : Frame} {cs : List Frame} {uc : FrameMode}, OKm P ng μ h w → P.funcs[f]? = some fn → fr.fn = f → fr.kind = kindOf d → TmR μ tm n fr.tmps → DfsR μ ds fr.defers → MdR μ uA fr.mode → (d = true → MdR μ md uc) →
    CallGoes P ng d f (lone fr (setMd d uc cs) w) cs μ h w M
  | [], h, uA, M, e, μ, w, fr, cs, uc, ho, hf, hfn, hk, ht, hdf, hu, hmd => by
    have hd0 : fr.defers = [] := List.eq_nil_of_length_eq_zero hdf.1.symm
    unfold unwindA at e
    cases hmode : fr.mode with
    | run => rw [hmode] at hu; cases hu; cases e
    | returning =>
      rw [hmode] at hu; cases hu
      simp only at e
      split at e
      · rename_i v hv
        cases e
        obtain ⟨v', h1, h2⟩ := resultsA_ok ho.wr ht hv
        exact ⟨_, μ, w, uc, .returned v', fr, List.mem_singleton.2 rfl, .ret ho (Fr.refl _ _ _) h2 hmd, .refl _ _, hk, hfn, hmode, hd0, fn, hfn ▸ hf, h1⟩
      · cases e
    | panicking c =>
      rw [hmode] at hu
      cases hu with
      | panicking hc =>
        cases e
        exact ⟨_, μ, w, uc, .panicked c, fr, List.mem_singleton.2 rfl, .pan ho (Fr.refl _ _ _) hc hmd, .refl _ _, hk, hfn, hmode, hd0, fn, hfn ▸ hf⟩
  | dd :: ds, h, uA, M, e, μ, w, fr, cs, uc, ho, hf, hfn, hk, ht, hdf, hu, hmd => by
    obtain ⟨dd', ds', hdd⟩ : ∃ dd' ds', fr.defers = dd' :: ds' := by
      cases hq : fr.defers with
      | nil => have := hdf.1; rw [hq] at this; simp at this
      | cons a b => exact ⟨a, b, rfl⟩
    have hd1 : DfR μ dd dd' := hdf.2 0 _ _ (by simp) (by simp [hdd])
    have hds : DfsR μ ds ds' := ⟨by have := hdf.1; rw [hdd] at this; simpa using this, fun i x y hx hy => hdf.2 (i + 1) x y (by simpa using hx) (by simpa [hdd] using hy)⟩
    have hmr : fr.mode = .run → uA = .run := fun hh => by rw [hh] at hu; cases hu; rfl
    unfold unwindA at e
    split at e
    · cases e
    · rename_i r hnr htar
      have hmode : fr.mode ≠ .run := fun hh => hnr (hmr hh)
      have ht' := hd1.1
      rw [htar] at ht'
      cases htt : dd'.target with
      | collected r' =>
        rw [htt] at ht'
        obtain ⟨x, hx, hx0, hr'⟩ := ht'
        subst hr'
        split at e
        · rename_i h1 htake
          unfold takeA at htake
          split at htake
          · rename_i hg
            cases htake
            obtain ⟨l', o', k1, k2, k3⟩ := ho.wr.live r _ hg rfl
            rw [hx] at k1; cases k1
            cases k3 with
            | defs b1 b2 =>
              rename_i ds2
              have : ds2 = [] := List.eq_nil_of_length_eq_zero b2.1.symm
              subst this
              have hgo := run_getObj (P := P) k2 (fun _ _ _ h => by cases h)
              have hso := run_setObj (P := P) (.deferred none) k2 (fun _ _ _ h => by cases h)
              obtain ⟨wr1, f1⟩ := ho.wr.put (o := .defs none) (o' := .deferred none) ⟨_, hg, rfl⟩ hx (.defs0 hx0) (ho.wr.sameRow hg rfl hx fun _ _ e => by cases e)
              have htk : (Instr.takeDeferred x.blk).run P w = .ok [] { w with heap := w.heap.setIfInBounds x.blk (.deferred none) } := by
                unfold Instr.takeDeferred
                simp [hgo, hso]
              have hstep := step_collected (cs := setMd d uc cs) hmode hdd htt htk
              exact ((unwind_ok hrec hng e (ho.step wr1 f1) hf (fr := { fr with defers := [] ++ ds' }) (cs := cs) (uc := uc) hfn hk ht hds hu hmd).from f1).head (.one hstep)
          · cases htake
        · cases e
      | _ => rw [htt] at ht'; exact ht'.elim
    · rename_i g cap hnr htar
      have hmode : fr.mode ≠ .run := fun hh => hnr (hmr hh)
      split at e
      · rename_i gf hgf
        split at e
        · rename_i bd hbd
          have ht' := hd1.1
          rw [htar] at ht'
          cases htt : dd'.target with
          | fn fv cap' =>
            rw [htt] at ht'
            obtain ⟨hfv, hcap⟩ := ht'
            cases hfv
            have hinv : (invoke dd'.target dd'.args).run P w = .ok (.enter g (dd'.args ++ cap')) w := by
              simp [htt, invoke, callFunc, hgf, hng g gf hgf, hbd]
            have hstep := step_defer (cs := setMd d uc cs) hmode hdd htt hinv
            obtain ⟨L, hL, hB⟩ := bindO_some e
            have hc : CallOK P ng g (dd.args.toList ++ cap.toList) true h _ L := hrec _ _ hL
            have hargs : LR μ (dd.args.toList ++ cap.toList) (dd'.args ++ cap').toList := by
              simpa using LR.app hd1.2.toList hcap.toList
            obtain ⟨r, μ1, w1, u1, e1, fr1, hm, hdone, hst, hk1, hfn1, hgo⟩ := hc μ w _ ({ fr with defers := ds' } :: setMd d uc cs) fr.mode ho hargs (by simp) (fun _ => hu)
            simp only [Array.toArray_toList, kindOf, setMd] at hst hk1
            obtain ⟨N, hN, hNM⟩ := bindR_mem hB r hm
            refine CallGoes.mono hNM ?_
            cases hdone with
            | ret ho1 hf1 hv hmd1 =>
              have h2 := step_going_returned (c := { fr with defers := ds', mode := u1 }) (cs := setMd d uc cs) hk1 hgo
              have ih := unwind_ok hrec hng hN ho1 hf (fr := { fr with defers := ds', mode := settle u1 }) (cs := cs) (uc := uc) hfn hk (ht.mono hf1.le) (hds.mono hf1.le) (settle_ok (hmd1 rfl)) (fun hd => (hmd hd).mono hf1.le)
              exact (ih.from hf1).head (.head hstep (hst.trans (.one h2)))
            | pan ho1 hf1 hv hmd1 =>
              have h2 := step_going_panicked (c := { fr with defers := ds', mode := u1 }) (cs := setMd d uc cs) hgo
              have ih := unwind_ok hrec hng hN ho1 hf (fr := { fr with defers := ds', mode := raised u1 _ }) (cs := cs) (uc := uc) hfn hk (ht.mono hf1.le) (hds.mono hf1.le) (raised_ok (hmd1 rfl) hv) (fun hd => (hmd hd).mono hf1.le)
              exact (ih.from hf1).head (.head hstep (hst.trans (.one h2)))
          | _ => rw [htt] at ht'; exact ht'.elim
        · cases e
      · cases e
    · cases e

end
end Go.Ev

/-! A function's contract from its body's run; ranges over functions. -/
namespace Go.Ev
open Go

section
variable {P : Program} {ng : Nat} {sm : Sums} {rec : Tk → Out}

theorem argsT_get : ∀ (vs : List Value) (i : Nat) (t : T Value) (j : Nat) (v : Value), i + vs.length ≤ 2 ^ TD → j < 2 ^ TD → T.get TD (argsT i t vs) j = some v → (i ≤ j ∧ vs[j - i]? = some v) ∨ T.get TD t j = some v
  | [], i, t, j, v, _, _, e => .inr e
  | u :: us, i, t, j, v, h1, h2, e => by
    simp only [List.length_cons] at h1
    rcases argsT_get us (i + 1) (T.set TD t i u) j v (by omega) h2 e with ⟨h3, h4⟩ | h3
    · refine .inl ⟨by omega, ?_⟩
      rw [show j - i = (j - (i + 1)) + 1 by omega]; simpa using h4
    · rw [T.get_set _ _ _ _ _ (by omega) h2] at h3
      split at h3
      · rename_i hij; cases h3; subst hij; exact .inl ⟨Nat.le_refl _, by simp⟩
      · exact .inr h3

theorem args_ok {μ : Mu} {args args' : List Value} {n : Nat} (h : LR μ args args') (h1 : args.length ≤ n) (h2 : n ≤ 2 ^ TD) : TmR μ (argsT 0 .e args) n (args'.toArray ++ Array.replicate (n - args'.toArray.size) undef) := by
  have hl := h.1
  refine ⟨by simp; omega, h2, fun i v hi e => ?_⟩
  rcases argsT_get args 0 .e i v (by omega) hi e with ⟨_, h3⟩ | h3
  · have h3 : args[i]? = some v := by simpa using h3
    have hlt := (List.getElem?_eq_some_iff.1 h3).1
    have hy : args'[i]? = some (args'[i]'(by omega)) := List.getElem?_eq_getElem _
    refine ⟨args'[i]'(by omega), ?_, h.2 i _ _ h3 hy⟩
    rw [Array.getElem?_append_left (by simp; omega)]
    simp
  · rw [T.get_e] at h3; cases h3

theorem call_ok (hrec : RecOK P ng rec) (hng : ∀ (g : FuncId) (fn : Func), P.funcs[g]? = some fn → ¬ fn.name = "runtime.NumGoroutine") {f : FuncId} {args : List Value} {d : Bool} {h : Hp} {md : FrameMode} {M : List Res} (e : callA P rec f args d h md = some M) : CallOK P ng f args d h md M := by
  unfold callA at e
  split at e
  · rename_i fn hfn
    split at e
    · rename_i c hc
      split at e
      · rename_i hb
        simp only [Bool.and_eq_true, Nat.ble_eq] at hb
        obtain ⟨L, hL, hB⟩ := bindO_some e
        intro μ w args' cs u ho hargs hcs hmd
        let b : Frame := { (default : Frame) with fn := f, kind := kindOf d, roundOf := none }
        have henter : Frame.enter P f args'.toArray (kindOf d) = b.atR { tmps := args'.toArray ++ Array.replicate (fn.ntmps - args'.toArray.size) undef, defers := [] } [.code c] := by
          simp [Frame.enter, Frame.atR, hfn, hc, b]
        have hcode : CodeOK P ng ⟨f, d, none⟩ c ⟨argsT 0 .e args, fn.ntmps, [], h, mdOf d md⟩ L := hrec _ _ hL
        have htm := args_ok hargs hb.1 hb.2
        obtain ⟨u0, hu0, hu1⟩ : ∃ u0, MdR μ (mdOf d md) u0 ∧ setMd d u0 cs = setMd d u cs := by
          cases d with
          | true => exact ⟨u, hmd rfl, rfl⟩
          | false => exact ⟨.run, .run, by rw [setMd_false, setMd_false]⟩
        obtain ⟨x1, s1, μ1, w1, a1, u1, e1, hm, hf, ha⟩ := hcode μ w b [] cs { tmps := args'.toArray ++ Array.replicate (fn.ntmps - args'.toArray.size) undef, defers := [] } u0 ho ⟨rfl, rfl, rfl⟩ hcs hu0 ⟨htm, ⟨rfl, fun i x y hx _ => by simp at hx⟩⟩
        simp only [hu1] at ha
        rw [henter]
        obtain ⟨N, hN, hNM⟩ := bindR_mem hB _ hm
        refine CallGoes.mono hNM ?_
        have go : ∀ (uA : FrameMode) (fr : Frame), unwindA P rec fn s1.tm s1.md s1.df s1.hp uA = some N → fr.fn = f → fr.kind = kindOf d → fr.tmps = a1.tmps → fr.defers = a1.defers → MdR μ1 uA fr.mode →
            Steps P (lone (b.atR { tmps := args'.toArray ++ Array.replicate (fn.ntmps - args'.toArray.size) undef, defers := [] } [.code c]) (setMd d u cs) w) (lone fr (setMd d u1 cs) w1) →
            CallGoes P ng d f (lone (b.atR { tmps := args'.toArray ++ Array.replicate (fn.ntmps - args'.toArray.size) undef, defers := [] } [.code c]) (setMd d u cs) w) cs μ h w N := by
          intro uA fr he h1 h2 h3 h4 h5 h6
          exact ((unwind_ok hrec hng he hf.ok hfn h1 h2 (h3 ▸ hf.st.tm) (h4 ▸ hf.st.df) h5 (fun _ => hf.md)).from hf.fr).head h6
        have hE := hf.ex
        cases hE with
        | normal => exact go .returning { b.atR a1 [] with mode := .returning } hN rfl rfl rfl rfl .returning (Steps.trans ha (.one (stepR_end rfl)))
        | exit id => cases hN
        | ret =>
          obtain ⟨K1, q⟩ := ha
          exact go .returning { b.atR a1 (.code .ret :: K1) with mode := .returning } hN rfl rfl rfl rfl .returning (Steps.trans q (.one (stepR_ret rfl)))
        | panic hc =>
          obtain ⟨K1, q⟩ := ha
          exact go (.panicking _) { b.atR a1 K1 with mode := .panicking _ } hN rfl rfl rfl rfl (.panicking hc) q
      · cases e
    · cases e
  · cases e

/-! ### Ranges over functions -/
theorem run_newObj (w : World) (o : Obj) : (newObj o).run P w = .ok w.heap.size { w with heap := w.heap.push o } := rfl

theorem enterA_ok {k : Kd} {s s1 : St} {ps : Array Tmp} {as bd : Code} {l : Nat} (e : enterA k s ps as bd = some (l, s1)) {μ : Mu} {w : World} {b : Frame} {a : Act} (ho : OKm P ng μ s.hp w) (hk : KdR μ k b) (hst : StR μ s a) :
    ∃ x mark w1 μ1, (Instr.enterLoop b.fn a.tmps ps as bd b.roundOf).run P w = .ok (x.blk, mark) w1 ∧ μ1 l = some x ∧ x.sh = 0 ∧ OKm P ng μ1 s1.hp w1 ∧ Fr μ s.hp w μ1 s1.hp w1 ∧ StR μ1 s1 { a with defers := mark ++ a.defers } ∧ s1.md = s.md ∧ s1.tm = s.tm := by
  unfold enterA at e
  split at e
  · rename_i hr
    have hro : b.roundOf = none := by have := hk.ro; rw [hr] at this; exact this
    split at e
    · rename_i r1 r2
      cases e
      obtain ⟨wr1, f1⟩ := ho.wr.new (ex := 0) (o := .defs (some [])) (o' := .deferred (some [])) r1 (ho.fr _ (Nat.le_refl _)) (.defs rfl ⟨rfl, fun i x y hx _ => by simp at hx⟩)
      have ho1 := ho.step wr1 f1
      have hd : (μ.add s.hp.nx ⟨w.heap.size, 0, 0⟩) s.hp.nx = some ⟨w.heap.size, 0, 0⟩ := Mu.add_self _ _ _
      have hf2 : (μ.add s.hp.nx ⟨w.heap.size, 0, 0⟩) (s.hp.new (.defs (some []))).nx = none := ho1.fr _ (Nat.le_refl _)
      have hle := Mu.le_add (μ := μ.add s.hp.nx ⟨w.heap.size, 0, 0⟩) (b := (s.hp.new (.defs (some []))).nx) ⟨w.heap.size + 1, 0, 0⟩ hf2
      obtain ⟨wr2, f2⟩ := ho1.wr.new (ex := 0) (o := .loop .ready none k.fn s.tm s.ntm ps.toList as bd s.hp.nx) (o' := .loop { state := .ready, pending := none, fn := b.fn, tmps := a.tmps, params := ps, assign := as, body := bd, defers := w.heap.size }) r2 hf2
        (by
          have := OR.loop (P := P) (l := ⟨(w.heap.push (.deferred (some []))).size, 0, 0⟩) (μ := (μ.add s.hp.nx ⟨w.heap.size, 0, 0⟩).add (s.hp.new (.defs (some []))).nx ⟨(w.heap.push (.deferred (some []))).size, 0, 0⟩) (st := .ready) (pend := none) (fn := k.fn) (params := ps.toList) (assign := as) (body := bd) rfl ((hst.tm.mono f1.le).mono (by simpa using hle)) ((show Mu.le _ _ by simpa using hle) _ _ hd) rfl
          simpa [hk.fn] using this)
      refine ⟨⟨w.heap.size + 1, 0, 0⟩, [{ target := .collected w.heap.size, args := #[] }], _, _, ?_, ?_, rfl, ho1.step wr2 f2, f1.trans f2, ⟨(hst.tm.mono f1.le).mono f2.le, ?_⟩, rfl, rfl⟩
      · rw [hro]
        unfold Instr.enterLoop
        simp only [Sem.run_bind, Sem.run_pure, Result.andThen_ok, run_newObj]
        simp
      · simp [Mu.add, Hp.new]
      · refine ⟨by simp [hst.df.1], fun i x y hx hy => ?_⟩
        cases i with
        | zero =>
          simp at hx hy; subst hx; subst hy
          exact ⟨⟨_, f2.le _ _ hd, rfl, rfl⟩, rfl, fun i x y hx _ => by simp at hx⟩
        | succ i => exact ((hst.df.mono f1.le).mono f2.le).2 i x y (by simpa using hx) (by simpa using hy)
    · cases e
  · rename_i l0 hr
    have hro := hk.ro
    rw [hr] at hro
    obtain ⟨x0, hx0, hsh, hro⟩ := hro
    split at e
    · rename_i st pend fn tm ntm ps' as' bd' d hg r1
      cases e
      obtain ⟨xd, tmps, c1, c2, c3, c4, c5, c6⟩ := loopObj ho hx0 hg
      have hf2 : μ s.hp.nx = none := ho.fr _ (Nat.le_refl _)
      have hle := Mu.le_add (μ := μ) (b := s.hp.nx) ⟨w.heap.size, 0, 0⟩ hf2
      obtain ⟨wr2, f2⟩ := ho.wr.new (ex := 0) (o := .loop .ready none k.fn s.tm s.ntm ps.toList as bd d) (o' := .loop { state := .ready, pending := none, fn := b.fn, tmps := a.tmps, params := ps, assign := as, body := bd, defers := xd.blk }) r1 hf2
        (by
          have := OR.loop (P := P) (l := ⟨w.heap.size, 0, 0⟩) (μ := μ.add s.hp.nx ⟨w.heap.size, 0, 0⟩) (st := .ready) (pend := none) (fn := k.fn) (params := ps.toList) (assign := as) (body := bd) rfl (hst.tm.mono hle) (hle _ _ c3) c4
          simpa [hk.fn] using this)
      refine ⟨⟨w.heap.size, 0, 0⟩, [], _, _, ?_, Mu.add_self _ _ _, rfl, ho.step wr2 f2, f2, ⟨hst.tm.mono f2.le, hst.df.mono f2.le⟩, rfl, rfl⟩
      rw [hro]
      unfold Instr.enterLoop
      simp only [Sem.run_bind, getLoop_run c6, Sem.run_pure, Result.andThen_ok, run_newObj]
    · cases e

theorem range_ok (hs : SumsOK P ng sm) (hrec : RecOK P ng rec) {k : Kd} {s : St} {g : Operand} {ps : Array Tmp} {as bd : Code} {M : List Res} (e : rangeA P ng sm rec k s g ps as bd = some M) : CodeOK P ng k (.rangeFunc g ps as bd) s M := by
  intro μ w b K cs a u ho hk hcs hu hst
  unfold rangeA at e
  split at e
  · rename_i v l s1 hv hen
    obtain ⟨x, mark, w1, μ1, hrun, hx, hx0, ho1, hf1, hst1, hmd1, htm1⟩ := enterA_ok hen ho hk hst
    split at e
    · rename_i f args hq hcall
      have hvr : VR μ v (a.eval g) := evalX_ok ho.gl hst.tm hv
      have hy : LR μ1 [.func (.yield l) #[] #[]] [.func (.yield x.blk) #[] #[]] := LR.cons (.func (.yield hx hx0) rfl (fun i x y hx _ => by simp at hx) rfl (fun i x y hx _ => by simp at hx)) (LR.nil _)
      obtain ⟨q, hqm, hok⟩ := aCallV_ok ho1.wr (hvr.mono hf1.le) hy hcall
      simp only [List.mem_singleton] at hqm
      subst hqm
      obtain ⟨_, _, args', hinv, hargs⟩ := hok
      rw [Sem.run_bind] at hinv
      have hinv' : ((Deferred.ofValue (a.eval g) #[.func (.yield x.blk) #[] #[]]).run P w1).andThen (fun d w' => (invoke d.target d.args).run P w') = .ok (.enter f args') w1 := hinv
      cases hres : (Deferred.ofValue (a.eval g) #[.func (.yield x.blk) #[] #[]]).run P w1 with
      | halt y w2 => rw [hres] at hinv'; cases hinv'
      | ok dd w2 =>
        rw [hres] at hinv'
        have hres2 : (resolve a.eval (rangeCall g x.blk) 0).run P w1 = .ok dd w2 := by rw [← hres]; simp [resolve, Act.eval]
        have hstep := stepR_rangeFunc (P := P) (b := b) (a := a) (k := K) (cs := setMd k.dfr u cs) (ps := ps) (assign := as) (body := bd) hrun hres2 hinv'
        refine Goes.head (.one hstep) (Goes.from hf1 ?_)
        obtain ⟨L, hL, hB⟩ := bindO_some e
        obtain ⟨r, μ2, w3, u2, e2, fr, hm, hd, hsteps, hk2, hfn, hgo⟩ := doCall_ok hs hrec hL μ1 w1 args'.toList (b.atR { a with defers := mark ++ a.defers } (.inRangeFunc x.blk :: K) :: setMd k.dfr u cs) .run ho1 hargs (by simp) (by simp)
        rw [setMd_false, setMd_false] at hsteps
        simp only [Array.toArray_toList] at hsteps
        obtain ⟨N, hN, hNM⟩ := bindR_mem hB r hm
        refine Goes.mono hNM ?_
        cases hd with
        | ret ho3 hf3 hv3 _ =>
          have hl : fr.leaving P w3 (.returned _) := ⟨hgo.1, hgo.2.1, hk2, hgo.2.2⟩
          have hst2 := step_leave_returned (c := b.atR { a with defers := mark ++ a.defers } (.inRangeFunc x.blk :: K)) (cs := setMd k.dfr u cs) hl
          rw [finish_atR_inRangeFunc] at hst2
          simp only [endLoopA] at hN
          split at hN
          · rename_i st pend fn4 tm4 ntm4 ps4 as4 bd4 d4 hg4
            have hx3 := hf3.le _ _ hx
            obtain ⟨xd, tmps4, _, c2, c3, c4, c5, c6⟩ := loopObj ho3 hx3 hg4
            obtain ⟨w5, hset, ho5, hf5⟩ := setLoop_ok (st := .exhausted) (pend := pend) (fn := fn4) (ps := ps4) (as := as4) (bd := bd4) ho3 hx3 c5 hx0 c2 c3 c4 c6 (fun _ _ _ h => by cases h)
            have hend : st ≠ .busy → (Instr.endLoop x.blk).run P w3 = .ok pend w5 := by
              intro hb
              unfold Instr.endLoop
              cases st <;> first
                | exact absurd rfl hb
                | simp [getLoop_run c6, hset]
            have fin : st ≠ .busy → Steps P (lone (Frame.enter P f args' .normal) (b.atR { a with defers := mark ++ a.defers } (.inRangeFunc x.blk :: K) :: setMd k.dfr u cs) w1) (lone (b.atR { a with defers := mark ++ a.defers } ((pend.map Item.code).toList ++ K)) (setMd k.dfr u cs) w5) :=
              fun hb => hsteps.trans (.head hst2 (.one (stepR_endRangeFunc (hend hb))))
            have hst5 : StR μ2 s1 { a with defers := mark ++ a.defers } := hst1.mono hf3.le
            have hu5 : MdR μ2 s1.md u := by rw [hmd1]; exact (hu.mono hf1.le).mono hf3.le
            split at hN
            · cases hN
            · rename_i hnb
              have hnb : st ≠ .busy := fun h => hnb h
              split at hN
              · cases hN
                exact ⟨_, _, μ2, w5, _, u, .normal, List.mem_singleton.2 rfl, ⟨.normal, ho5, hf3.trans hf5, ⟨hst5.1, hst5.2⟩, hu5⟩, fin hnb⟩
              · cases hN
                exact ⟨_, _, μ2, w5, _, u, .ret, List.mem_singleton.2 rfl, ⟨.ret, ho5, hf3.trans hf5, ⟨hst5.1, hst5.2⟩, hu5⟩, K, fin hnb⟩
              · cases hN
                exact ⟨_, _, μ2, w5, _, u, .exit _, List.mem_singleton.2 rfl, ⟨.exit _, ho5, hf3.trans hf5, ⟨hst5.1, hst5.2⟩, hu5⟩, K, rfl, fin hnb⟩
              · cases hN
          · cases hN
        | pan ho3 hf3 hc3 _ =>
          have hl : fr.leaving P w3 (.panicked _) := hgo
          have hst2 := step_leave_panicked (c := b.atR { a with defers := mark ++ a.defers } (.inRangeFunc x.blk :: K)) (cs := setMd k.dfr u cs) hl
          rw [Frame.raise_atR] at hst2
          simp only [Option.some.injEq] at hN
          subst hN
          have hst5 : StR μ2 s1 { a with defers := mark ++ a.defers } := hst1.mono hf3.le
          have hu5 : MdR μ2 s1.md u := by rw [hmd1]; exact (hu.mono hf1.le).mono hf3.le
          exact ⟨_, _, μ2, w3, _, u, .panic _, List.mem_singleton.2 rfl, ⟨.panic hc3, ho3, hf3, ⟨hst5.1, hst5.2⟩, hu5⟩, _, hsteps.trans (.one hst2)⟩
    · cases e
  · cases e

end
end Go.Ev
