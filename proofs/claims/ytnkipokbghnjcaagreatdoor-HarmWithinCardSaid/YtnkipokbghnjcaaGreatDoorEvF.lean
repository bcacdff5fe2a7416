/-
  Drawn regions, 5: what the evaluator has checked of each operation. · Drawn regions, 6: whatever the order drawn. · Drawn regions, 7: the region. · The growth of the heap through the whole evaluator; and the evaluator's word. · Summaries of calls: out of one run of the evaluator, good at every heap that begins alike. · A list of summaries. · Summaries of calls whose result has new blocks: good where the next block's number is the same.
-/
import Derived.Test.YtnkipokbghnjcaaGreatDoorEvE
/-! Drawn regions, 5: what the evaluator has checked of each operation. -/
namespace Go.Ev
open Go

section
variable {P : Program} {ng : Nat} {sm : Sums} {rec : Tk → Out} {ops : Array Oper} {s0 : St}

structure DI (P : Program) (ng : Nat) (sm : Sums) (rec : Tk → Out) (ops : Array Oper) (s0 : St) (d : DS) (t : List Ent) : Prop where
  tr : Tr (P := P) ng sm rec ops s0 t
  s : d.s = cur s0 t
  nx0 : d.nx0 = s0.hp.nx
  recs : d.recs = t.map fun e => { j := e.i, dst := e.o.dst, lk := e.lk }
  np : d.np = nps t
  done : ∀ j, Nat.testBit d.done j = true ↔ ∃ e ∈ t, e.i = j
  masks : ∀ i m, i < 2 ^ TD → T.get TD d.masks i = some m → (∃ e ∈ t, e.i = i) ∧ ∀ D, Closed ops D → D i → ∀ j, Nat.testBit m j = true → D j

theorem depMask_spec {masks : T Nat} : ∀ {es : List Edge} {mask : Nat}, depMask masks es = some mask →
    (∀ x ∈ es, Region.binds .any x = true → ∃ m, x.on < 2 ^ TD ∧ T.get TD masks x.on = some m) ∧
    ∀ j, Nat.testBit mask j = true → ∃ x ∈ es, Region.binds .any x = true ∧ x.on < 2 ^ TD ∧ ∃ m, T.get TD masks x.on = some m ∧ Nat.testBit m j = true
  | [], mask, e => by
    simp only [depMask, Option.some.injEq] at e
    subst e
    exact ⟨fun x hx => by simp at hx, fun j hj => by simp at hj⟩
  | y :: es, mask, e => by
    unfold depMask at e
    split at e
    · rename_i hb
      split at e
      · rename_i hlt
        have hlt : y.on < 2 ^ TD := by simpa [Nat.blt_eq] using hlt
        split at e
        · rename_i m hm
          split at e
          · rename_i r hr
            cases e
            obtain ⟨h1, h2⟩ := depMask_spec hr
            refine ⟨fun x hx hbx => ?_, fun j hj => ?_⟩
            · rcases List.mem_cons.1 hx with rfl | hx
              · exact ⟨m, hlt, hm⟩
              · exact h1 x hx hbx
            · have hj : Nat.testBit (m ||| r) j = true := hj
              rw [Nat.testBit_or, Bool.or_eq_true] at hj
              rcases hj with hj | hj
              · exact ⟨y, List.mem_cons_self, hb, hlt, m, hm, hj⟩
              · obtain ⟨x, hx, k⟩ := h2 j hj
                exact ⟨x, List.mem_cons_of_mem _ hx, k⟩
          · cases e
        · cases e
      · cases e
    · rename_i hb
      obtain ⟨h1, h2⟩ := depMask_spec e
      refine ⟨fun x hx hbx => ?_, fun j hj => ?_⟩
      · rcases List.mem_cons.1 hx with rfl | hx
        · rw [hb] at hbx; cases hbx
        · exact h1 x hx hbx
      · obtain ⟨x, hx, k⟩ := h2 j hj
        exact ⟨x, List.mem_cons_of_mem _ hx, k⟩

/-- What holds of an operation before its outcome. -/
structure Pre (d : DS) (t : List Ent) (i : Nat) (o : Oper) (mask : Nat) : Prop where
  op : ops[i]? = some o
  lt : i < 2 ^ TD
  new : ∀ r ∈ t, r.i ≠ i
  dep : ∀ D, Closed ops D → Ready D o → ∀ j, Nat.testBit mask j = true → D j
  on : ∀ x ∈ o.after, Region.binds .any x = true → ∃ r ∈ t, r.i = x.on
  ap1 : ∀ r ∈ t, ∀ a, r.o.dst = some a → o.dst ≠ some a
  ap2 : ∀ r ∈ t, Nat.testBit mask r.i = false → (∀ a, r.o.dst = some a → Nat.testBit (lkMask (o.looksAt ops)) a = false) ∧ (∀ c, o.dst = some c → Nat.testBit r.lk c = false)
  must : ∀ D, Closed ops D → Ready D o → ∀ j, Nat.testBit d.must j = true → D j

theorem apart1_spec {mask : Nat} {dst : Option Tmp} {lk : Nat} {r : DRec} (h : apart1 mask dst lk r = true) :
    (∀ a, r.dst = some a → dst ≠ some a) ∧ (Nat.testBit mask r.j = false → (∀ a, r.dst = some a → Nat.testBit lk a = false) ∧ (∀ c, dst = some c → Nat.testBit r.lk c = false)) := by
  unfold apart1 at h
  rw [Bool.and_eq_true] at h
  obtain ⟨h1, h2⟩ := h
  refine ⟨fun a ha hd => ?_, fun hm => ⟨fun a ha => ?_, fun c hc => ?_⟩⟩
  · rw [ha, hd] at h1; simp at h1
  · rw [hm, ha] at h2
    simp only [Bool.and_eq_true, Bool.not_eq_true'] at h2
    exact h2.1
  · rw [hm, hc] at h2
    simp only [Bool.and_eq_true, Bool.not_eq_true'] at h2
    exact h2.2

theorem drawOp_pre {d : DS} {t : List Ent} {i : Nat} {o : Oper} {L : List DS} (I : DI P ng sm rec ops s0 d t) (hoi : ops[i]? = some o) (e : drawOp P ng sm rec ops i o d = some L) :
    ∃ mask, depMask d.masks o.after.toList = some mask ∧ Pre (ops := ops) d t i o mask ∧ drawVal P ng sm rec ops i o mask (lkMask (o.looksAt ops)) d = some L := by
  unfold drawOp at e
  split at e
  · rename_i mask hb hm
    split at e
    · rename_i hc
      simp only [Bool.and_eq_true, Bool.not_eq_true', Nat.blt_eq] at hb hc
      obtain ⟨h1, h2⟩ := depMask_spec hm
      have hdep : ∀ D, Closed ops D → Ready D o → ∀ j, Nat.testBit mask j = true → D j := by
        intro D hD hR j hj
        obtain ⟨x, hx, hbx, hlt, m, hmm, hjm⟩ := h2 j hj
        exact (I.masks x.on m hlt hmm).2 D hD (hR x (by simpa using hx) hbx) j hjm
      have hap : ∀ r ∈ t, apart1 mask o.dst (lkMask (o.looksAt ops)) { j := r.i, dst := r.o.dst, lk := r.lk } = true := by
        intro r hr
        refine List.all_eq_true.1 hc.2 _ ?_
        rw [I.recs]; exact List.mem_map.2 ⟨r, hr, rfl⟩
      refine ⟨mask, hm, ⟨hoi, hb.1, ?_, hdep, ?_, ?_, ?_, ?_⟩, e⟩
      · intro r hr heq
        have := (I.done i).2 ⟨r, hr, heq⟩
        rw [hb.2] at this; cases this
      · intro x hx hbx
        obtain ⟨m, hlt, hmm⟩ := h1 x (by simpa using hx) hbx
        exact (I.masks x.on m hlt hmm).1
      · exact fun r hr => (apart1_spec (hap r hr)).1
      · exact fun r hr => (apart1_spec (hap r hr)).2
      · intro D hD hR j hj
        refine hdep D hD hR j ?_
        have h3 := Nat.eq_of_beq_eq_true hc.1
        have h3 : d.must &&& mask = d.must := h3
        rw [← h3, Nat.testBit_and, Bool.and_eq_true] at hj
        exact hj.2
    · cases e
  · cases e

/-- The next state of the run. -/
theorem DI.next {d : DS} {t : List Ent} (I : DI P ng sm rec ops s0 d t) {e : Ent} (k : EntOK (P := P) ng sm rec ops s0 e t) (hlt : e.i < 2 ^ TD) {mask : Nat} (hm : e.mask = mask) (hd : depMask d.masks e.o.after.toList = some mask) (must : Nat) :
    DI P ng sm rec ops s0 (nextD d e.i e.o mask e.lk e.post (nps (e :: t)) must) (e :: t) := by
  obtain ⟨h1, h2⟩ := depMask_spec hd
  refine ⟨.cons I.tr k, rfl, I.nx0, ?_, rfl, fun j => ?_, fun i m hi hg => ?_⟩
  · show _ :: d.recs = _
    rw [I.recs]; rfl
  · show Nat.testBit (d.done ||| 2 ^ e.i) j = true ↔ _
    rw [Nat.testBit_or, Bool.or_eq_true, I.done j, Nat.testBit_two_pow]
    simp only [decide_eq_true_eq, List.mem_cons, exists_eq_or_imp]
    constructor
    · rintro (h | h)
      · exact .inr h
      · exact .inl h
    · rintro (h | h)
      · exact .inr h
      · exact .inl h
  · have hg : T.get TD (T.set TD d.masks e.i (Nat.lor (2 ^ e.i) mask)) i = some m := hg
    rw [T.get_set _ _ _ _ _ hlt hi] at hg
    split at hg
    · rename_i hie
      cases hg
      subst hie
      refine ⟨⟨e, List.mem_cons_self, rfl⟩, fun D hD hDi j hj => ?_⟩
      have hj : Nat.testBit (2 ^ e.i ||| mask) j = true := hj
      rw [Nat.testBit_or, Bool.or_eq_true, Nat.testBit_two_pow] at hj
      rcases hj with hj | hj
      · have : e.i = j := of_decide_eq_true hj
        rw [← this]; exact hDi
      · exact k.dep D hD (fun x hx hb => hD e.i e.o hDi k.op x hx hb) j (by rw [hm]; exact hj)
    · obtain ⟨⟨r, hr, hri⟩, h4⟩ := I.masks i m hi hg
      exact ⟨⟨r, List.mem_cons_of_mem _ hr, hri⟩, h4⟩

theorem heapAll_spec {seen : Bool} {mask nx0 : Nat} {np : List DNp} {h : Hp} : ∀ {vals : List (Value × Hp)} {ps : List (Value × Hp × Nat)}, heapAll seen mask nx0 np h vals = some ps →
    ps.length = vals.length ∧ (∀ p ∈ vals, ∃ x ∈ ps, heapOne seen mask nx0 np h p = some x) ∧ (∀ x ∈ ps, ∃ p ∈ vals, heapOne seen mask nx0 np h p = some x)
  | [], ps, e => by
    simp only [heapAll, Option.some.injEq] at e
    subst e
    exact ⟨rfl, fun p hp => by simp at hp, fun p hp => by simp at hp⟩
  | p :: vs, ps, e => by
    unfold heapAll at e
    split at e
    · rename_i x l hx hl
      cases e
      obtain ⟨h1, h2, h3⟩ := heapAll_spec hl
      refine ⟨by simp [h1], fun q hq => ?_, fun y hy => ?_⟩
      · rcases List.mem_cons.1 hq with rfl | hq
        · exact ⟨x, List.mem_cons_self, hx⟩
        · obtain ⟨z, hz, k⟩ := h2 q hq
          exact ⟨z, List.mem_cons_of_mem _ hz, k⟩
      · rcases List.mem_cons.1 hy with rfl | hy
        · exact ⟨p, List.mem_cons_self, hx⟩
        · obtain ⟨z, hz, k⟩ := h3 y hy
          exact ⟨z, List.mem_cons_of_mem _ hz, k⟩
    · cases e

theorem putAll_spec {d : DS} {i : Nat} {o : Oper} {mask lk must : Nat} : ∀ {ps : List (Value × Hp × Nat)} {L : List DS}, putAll d i o mask lk must ps = some L →
    L.length = ps.length ∧ (∀ x ∈ ps, ∃ s, putO { d.s with hp := x.2.1 } o.dst x.1 = some s ∧ nextD d i o mask lk s ({ j := i, mask, lo := x.2.2, hi := x.2.1.nx } :: d.np) must ∈ L) ∧
    (∀ d' ∈ L, ∃ x ∈ ps, ∃ s, putO { d.s with hp := x.2.1 } o.dst x.1 = some s ∧ d' = nextD d i o mask lk s ({ j := i, mask, lo := x.2.2, hi := x.2.1.nx } :: d.np) must)
  | [], L, e => by
    simp only [putAll, Option.some.injEq] at e
    subst e
    exact ⟨rfl, fun p hp => by simp at hp, fun p hp => by simp at hp⟩
  | (v, h, lo) :: ps, L, e => by
    unfold putAll at e
    split at e
    · rename_i s l hs hl
      cases e
      obtain ⟨h1, h2, h3⟩ := putAll_spec hl
      refine ⟨by simp [h1], fun x hx => ?_, fun d' hd => ?_⟩
      · rcases List.mem_cons.1 hx with rfl | hx
        · exact ⟨s, hs, List.mem_cons_self⟩
        · obtain ⟨s', k1, k2⟩ := h2 x hx
          exact ⟨s', k1, List.mem_cons_of_mem _ k2⟩
      · rcases List.mem_cons.1 hd with rfl | hd
        · exact ⟨_, List.mem_cons_self, s, hs, rfl⟩
        · obtain ⟨x, hx, s', k1, k2⟩ := h3 d' hd
          exact ⟨x, List.mem_cons_of_mem _ hx, s', k1, k2⟩
    · cases e

/-- One outcome of an operation at the heap, as an entry. -/
theorem heap_entry (hsx : SumsExt sm) (hrx : RecExt rec) (hc : s0.hp.nx ≤ 2 ^ HD) {d : DS} {t : List Ent} {i : Nat} {o : Oper} {mask : Nat} (I : DI P ng sm rec ops s0 d t) (p : Pre (ops := ops) d t i o mask) (hd : depMask d.masks o.after.toList = some mask)
    (hw : wantedA ops d.s.tm o = some true) {vals : List (Value × Hp)} (hv : valOp P sm rec (evalL ng (lkMask (o.looksAt ops)) d.s.tm) o ((view mask d.np d.s.hp).setLw BIG) = some vals) {q : Value × Hp} (hq : q ∈ vals) {x : Value × Hp × Nat}
    (hx : heapOne (allSeen mask d.np) mask d.nx0 d.np d.s.hp q = some x) {s : St} (hs : putO { d.s with hp := x.2.1 } o.dst x.1 = some s) (one : Bool) (hone : one = true → vals = [q]) (must : Nat) :
    ∃ e : Ent, e.i = i ∧ e.o = o ∧ e.hv = some ((view mask d.np d.s.hp).setLw BIG, q.2, x.2.2) ∧ e.v = q.1 ∧ e.one = one ∧ e.pre = d.s ∧
      DI P ng sm rec ops s0 (nextD d i o mask (lkMask (o.looksAt ops)) s ({ j := i, mask, lo := x.2.2, hi := x.2.1.nx } :: d.np) must) (e :: t) := by
  obtain ⟨v, h2, lo⟩ := x
  have g := I.tr.grown hc
  have hcap : d.s.hp.nx ≤ 2 ^ HD := by rw [I.s]; exact g.cap
  have hnp : ∀ p ∈ d.np, p.hi ≤ d.s.hp.nx := by rw [I.s, I.np]; exact g.np
  have hVn : ((view mask d.np d.s.hp).setLw BIG).nx = d.s.hp.nx := (view_get mask d.np d.s.hp hnp hcap).1
  have hext : Ext ((view mask d.np d.s.hp).setLw BIG) q.2 := valOp_ext hsx hrx vals hv q hq
  have hn1 := hext.nx
  have hn2 := hext.cap (by rw [hVn]; exact hcap)
  rw [hVn] at hn1
  obtain ⟨hv1, h1, hcond⟩ := heapOne_spec rfl hnp hn1 hn2 hx
  obtain ⟨r1, _, _, _, _⟩ := putO_more hs
  let e : Ent := { i := i, o := o, mask := mask, lk := lkMask (o.looksAt ops), v := q.1, pre := d.s, post := s, hv := some ((view mask d.np d.s.hp).setLw BIG, q.2, lo), one := one }
  have hpost : s.hp = h2 := r1
  have hnps : nps (e :: t) = { j := i, mask, lo, hi := h2.nx } :: d.np := by
    show List.filterMap toNp (e :: t) = _
    rw [List.filterMap_cons]
    simp only [toNp, e, hpost]
    rw [I.np]; rfl
  have k : EntOK (P := P) ng sm rec ops s0 e t := by
    refine ⟨p.op, p.new, p.dep, p.on, p.ap1, p.ap2, rfl, I.s, ?_, ?_⟩
    · show putO { d.s with hp := s.hp } o.dst q.1 = some s
      rw [hpost, ← hv1]; exact hs
    · show HowOK (P := P) ng sm rec ops s0 e t
      unfold HowOK
      simp only [e]
      rw [hpost, ← I.np, ← I.nx0]
      refine ⟨hw, rfl, ⟨vals, hv, hq, hone⟩, hext, h1, ?_⟩
      exact hcond
  have := I.next k p.lt rfl hd must
  rw [hnps] at this
  exact ⟨e, rfl, rfl, rfl, rfl, rfl, rfl, this⟩

theorem drawOp_spec (hsx : SumsExt sm) (hrx : RecExt rec) (hc : s0.hp.nx ≤ 2 ^ HD) {d : DS} {t : List Ent} {i : Nat} {o : Oper} {L : List DS} (I : DI P ng sm rec ops s0 d t) (hoi : ops[i]? = some o) (e : drawOp P ng sm rec ops i o d = some L) :
    ∃ mask, Pre (ops := ops) d t i o mask ∧ L ≠ [] ∧
      (∀ d' ∈ L, (∃ e' : Ent, e'.i = i ∧ e'.o = o ∧ DI P ng sm rec ops s0 d' (e' :: t)) ∧ ∀ j, Nat.testBit d.must j = true → Nat.testBit d'.must j = true) ∧
      ((∃ d' e', L = [d'] ∧ e'.i = i ∧ e'.o = o ∧ DI P ng sm rec ops s0 d' (e' :: t) ∧ (e'.hv = none ∨ e'.one = true)) ∨
       ((∀ d' ∈ L, Nat.testBit d'.must i = true) ∧ ∃ vals, valOp P sm rec (evalL ng (lkMask (o.looksAt ops)) d.s.tm) o ((view mask d.np d.s.hp).setLw BIG) = some vals ∧ wantedA ops d.s.tm o = some true ∧ vals ≠ [] ∧
          ∀ q ∈ vals, ∃ d' ∈ L, ∃ (e' : Ent) (lo : Nat), e'.i = i ∧ e'.o = o ∧ e'.hv = some ((view mask d.np d.s.hp).setLw BIG, q.2, lo) ∧ e'.v = q.1 ∧ e'.pre = d.s ∧ DI P ng sm rec ops s0 d' (e' :: t))) := by
  obtain ⟨mask, hd, p, e⟩ := drawOp_pre I hoi e
  refine ⟨mask, p, ?_⟩
  have free : ∀ (v : Value) (s : St), putO d.s o.dst v = some s → ((wantedA ops d.s.tm o = some false ∧ v = undef) ∨ (wantedA ops d.s.tm o = some true ∧ pureOp P (evalL ng (lkMask (o.looksAt ops)) d.s.tm) o = some v)) →
      ∃ e' : Ent, e'.i = i ∧ e'.o = o ∧ DI P ng sm rec ops s0 (nextD d i o mask (lkMask (o.looksAt ops)) s d.np d.must) (e' :: t) ∧ e'.hv = none := by
    intro v s hs hw
    obtain ⟨r1, _⟩ := putO_more hs
    let e : Ent := { i := i, o := o, mask := mask, lk := lkMask (o.looksAt ops), v := v, pre := d.s, post := s, hv := none, one := true }
    have hnps : nps (e :: t) = d.np := by
      show List.filterMap toNp (e :: t) = _
      rw [List.filterMap_cons]
      simp only [toNp, e]
      rw [I.np]; rfl
    have k : EntOK (P := P) ng sm rec ops s0 e t := by
      refine ⟨p.op, p.new, p.dep, p.on, p.ap1, p.ap2, rfl, I.s, ?_, ?_⟩
      · show putO { d.s with hp := s.hp } o.dst v = some s
        rw [r1]; exact hs
      · show HowOK (P := P) ng sm rec ops s0 e t
        unfold HowOK
        exact ⟨r1, hw⟩
    have := I.next k p.lt rfl hd d.must
    rw [hnps] at this
    exact ⟨e, rfl, rfl, this, rfl⟩
  unfold drawVal at e
  split at e
  · rename_i hw
    split at e
    · rename_i s hs
      cases e
      obtain ⟨e', h1, h2, h3, h4⟩ := free undef s hs (.inl ⟨hw, rfl⟩)
      exact ⟨by simp, fun d' hd' => by simp only [List.mem_singleton] at hd'; subst hd'; exact ⟨⟨e', h1, h2, h3⟩, fun j h => h⟩, .inl ⟨_, e', rfl, h1, h2, h3, .inl h4⟩⟩
    · cases e
  · rename_i hw
    split at e
    · rename_i v hv
      split at e
      · rename_i s hs
        cases e
        obtain ⟨e', h1, h2, h3, h4⟩ := free v s hs (.inr ⟨hw, hv⟩)
        exact ⟨by simp, fun d' hd' => by simp only [List.mem_singleton] at hd'; subst hd'; exact ⟨⟨e', h1, h2, h3⟩, fun j h => h⟩, .inl ⟨_, e', rfl, h1, h2, h3, .inl h4⟩⟩
      · cases e
    · have heap : ∀ ps, heapOp P sm rec (evalL ng (lkMask (o.looksAt ops)) d.s.tm) o mask d.nx0 d.np d.s.hp = some ps →
          ∃ vals, valOp P sm rec (evalL ng (lkMask (o.looksAt ops)) d.s.tm) o ((view mask d.np d.s.hp).setLw BIG) = some vals ∧ heapAll (allSeen mask d.np) mask d.nx0 d.np d.s.hp vals = some ps := by
        intro ps hps
        unfold heapOp at hps
        split at hps
        · rename_i vals hvals; exact ⟨vals, hvals, hps⟩
        · cases hps
      split at e
      · rename_i x hps
        obtain ⟨vals, hvals, hall⟩ := heap _ hps
        obtain ⟨a1, a2, a3⟩ := heapAll_spec hall
        obtain ⟨b1, b2, b3⟩ := putAll_spec e
        have hvl : ∃ q, vals = [q] := by
          match vals, a1 with
          | [q], _ => exact ⟨q, rfl⟩
          | [], h => simp at h
          | _ :: _ :: _, h => simp at h
        obtain ⟨q, rfl⟩ := hvl
        obtain ⟨y, hy, hone⟩ := a2 q (List.mem_singleton.2 rfl)
        simp only [List.mem_singleton] at hy
        subst hy
        obtain ⟨s, hs, hmem⟩ := b2 y (List.mem_singleton.2 rfl)
        obtain ⟨e', k1, k2, k3, k4, k5, k6, k7⟩ := heap_entry hsx hrx hc I p hd hw hvals (List.mem_singleton.2 rfl) hone hs true (fun _ => rfl) d.must
        have hL : L = [nextD d i o mask (lkMask (o.looksAt ops)) s ({ j := i, mask, lo := y.2.2, hi := y.2.1.nx } :: d.np) d.must] := by
          match L, b1, hmem with
          | [z], _, h => simp only [List.mem_singleton] at h; rw [h]
          | [], h, _ => simp at h
          | _ :: _ :: _, h, _ => simp at h
        subst hL
        exact ⟨by simp, fun d' hd' => by simp only [List.mem_singleton] at hd'; subst hd'; exact ⟨⟨e', k1, k2, k7⟩, fun j h => h⟩, .inl ⟨_, e', rfl, k1, k2, k7, .inr k5⟩⟩
      · rename_i x y r hps
        obtain ⟨vals, hvals, hall⟩ := heap _ hps
        obtain ⟨a1, a2, a3⟩ := heapAll_spec hall
        obtain ⟨b1, b2, b3⟩ := putAll_spec e
        have hsub : ∀ j, Nat.testBit d.must j = true → Nat.testBit (Nat.lor d.must (2 ^ i)) j = true := fun j hj => by
          show Nat.testBit (d.must ||| 2 ^ i) j = true
          rw [Nat.testBit_or, hj]; rfl
        have hi : Nat.testBit (Nat.lor d.must (2 ^ i)) i = true := by
          show Nat.testBit (d.must ||| 2 ^ i) i = true
          rw [Nat.testBit_or]; simp
        refine ⟨fun h => by rw [h] at b1; simp at b1, fun d' hd' => ?_, .inr ⟨fun d' hd' => ?_, vals, hvals, hw, fun h => by rw [h] at a1; simp at a1, fun q hq => ?_⟩⟩
        · obtain ⟨z, hz, s, hs, rfl⟩ := b3 d' hd'
          obtain ⟨q, hq, hone⟩ := a3 z hz
          obtain ⟨e', k1, k2, k3, k4, k5, k6, k7⟩ := heap_entry hsx hrx hc I p hd hw hvals hq hone hs false (fun h => by cases h) (Nat.lor d.must (2 ^ i))
          exact ⟨⟨e', k1, k2, k7⟩, hsub⟩
        · obtain ⟨z, hz, s, hs, rfl⟩ := b3 d' hd'
          exact hi
        · obtain ⟨z, hz, hone⟩ := a2 q hq
          obtain ⟨s, hs, hmem⟩ := b2 z hz
          obtain ⟨e', k1, k2, k3, k4, k5, k6, k7⟩ := heap_entry hsx hrx hc I p hd hw hvals hq hone hs false (fun h => by cases h) (Nat.lor d.must (2 ^ i))
          exact ⟨_, hmem, e', z.2.2, k1, k2, k3, k4, k6, k7⟩
      · cases e
  · cases e

end
end Go.Ev

/-! Drawn regions, 6: whatever the order drawn. -/
namespace Go.Ev
open Go

section
variable {P : Program} {ng : Nat} {sm : Sums} {rec : Tk → Out} {ops : Array Oper} {s0 : St}

theorem ent_ext {e : Ent} {t : List Ent} (g : Grown s0 t) (k : EntOK (P := P) ng sm rec ops s0 e t) : Ext e.pre.hp e.post.hp := by
  have hn := ent_nx g k
  refine ⟨hn.nx, fun _ => hn.cap, ?_, fun hc b h1 h2 o ho => ?_⟩
  · have hh := k.how
    unfold HowOK at hh
    split at hh
    · rw [hh.1]; exact Nat.le_refl _
    · obtain ⟨_, _, _, _, h1, _⟩ := hh
      rw [h1.lw]; exact (minN_le _ _).1
  · have hu : ¬ Touch e t b := by
      rintro ⟨V, V', lo, hv, _, h3, _⟩
      have hh := k.how
      unfold HowOK at hh
      rw [hv] at hh
      simp only at hh
      obtain ⟨_, _, _, _, h4, _⟩ := hh
      have h5 := h4.lw
      have h6 := h4.lo
      have := minN_le e.pre.hp.lw V'.lw
      unfold minN at h6
      split at h6 <;> omega
    have := untouched g k hu o
    exact ⟨fun q => (this.1 ⟨q, ho⟩).1, fun q => (this.2 ⟨q, ho⟩).1⟩

theorem Tr.ext {t : List Ent} (h : Tr (P := P) ng sm rec ops s0 t) (hc : s0.hp.nx ≤ 2 ^ HD) : Ext s0.hp (cur s0 t).hp := by
  induction h with
  | nil => exact .refl _
  | cons ht k ih =>
    have := ent_ext (ht.grown hc) k
    rw [k.pre] at this
    exact ih.trans this

theorem bindD_mem {f : DS → Out} : ∀ {L : List DS} {M : List Res}, bindD f L = some M → ∀ x ∈ L, ∃ N, f x = some N ∧ ∀ r ∈ N, r ∈ M
  | [], _, _, x, hx => by simp at hx
  | [y], M, e, x, hx => by
    simp only [List.mem_singleton] at hx
    subst hx
    exact ⟨M, e, fun _ h => h⟩
  | y :: z :: zs, M, e, x, hx => by
    unfold bindD at e
    simp only at e
    split at e
    · rename_i l hl
      split at e
      · rename_i m hm
        cases e
        rcases List.mem_cons.1 hx with rfl | hx
        · exact ⟨l, hl, fun r hr => List.mem_append_left _ hr⟩
        · obtain ⟨N, h1, h2⟩ := bindD_mem hm x hx
          exact ⟨N, h1, fun r hr => List.mem_append_right _ (h2 r hr)⟩
      · cases e
    · cases e

theorem drawOps_cons {i : Nat} {o : Oper} {os : List (Nat × Oper)} {d : DS} {M : List Res} (e : drawOps P ng sm rec ops ((i, o) :: os) d = some M) :
    ∃ L, drawOp P ng sm rec ops i o d = some L ∧ ∀ x ∈ L, ∃ N, drawOps P ng sm rec ops os x = some N ∧ ∀ r ∈ N, r ∈ M := by
  unfold drawOps at e
  split at e
  · rename_i L hL
    exact ⟨L, hL, bindD_mem e⟩
  · cases e

theorem next_only (hsx : SumsExt sm) (hrx : RecExt rec) (hc : s0.hp.nx ≤ 2 ^ HD) (D : Nat → Prop) (hD : Closed ops D) {p : Nat × Oper} (hR : Ready D p.2) (os : List (Nat × Oper)) : ∀ (d : DS) (t : List Ent) (N : List Res), DI P ng sm rec ops s0 d t → drawOps P ng sm rec ops os d = some N → (∀ p ∈ os, ops[p.1]? = some p.2) →
    p ∈ os → ∀ j, Nat.testBit d.must j = true → D j := by
  induction os with
  | nil => intro d t N _ _ _ hp; simp at hp
  | cons q os ih =>
    intro d t N I e hos hp j hj
    obtain ⟨h, o⟩ := q
    obtain ⟨L, hL, hN⟩ := drawOps_cons e
    have hq : ops[h]? = some o := hos (h, o) List.mem_cons_self
    obtain ⟨mask, pr, hne, hall, _⟩ := drawOp_spec hsx hrx hc I hq hL
    rcases List.mem_cons.1 hp with rfl | hp
    · exact pr.must D hD hR j hj
    · obtain ⟨d', hd'⟩ := List.exists_mem_of_ne_nil _ hne
      obtain ⟨⟨e', _, _, I'⟩, hm⟩ := hall d' hd'
      obtain ⟨N', hN', _⟩ := hN d' hd'
      exact ih d' (e' :: t) N' I' hN' (fun q hq => hos q (List.mem_cons_of_mem _ hq)) hp j (hm j hj)

variable {μ0 : Mu} {w0 : World} {a0 : Act}

theorem DW.more {D : Nat → Prop} {t : List Ent} {μ : Mu} {w : World} {a : Act} (W : DW P s0 μ0 w0 a0 D t μ w a) {e : Ent} (hne : ¬ D e.i) : DW P s0 μ0 w0 a0 D (e :: t) μ w a := by
  have g : ∀ {b o n}, GL D s0.hp (e :: t) b o n → GL D s0.hp t b o n := fun h => by
    rcases h with ⟨h, _⟩ | ⟨_, h⟩
    · exact absurd h hne
    · exact h
  refine ⟨fun b o n h => W.live b o n (g h), fun b1 b2 o1 o2 n1 n2 l1 l2 h1 h2 => W.inj b1 b2 o1 o2 n1 n2 l1 l2 (g h1) (g h2), fun b hb h => W.none b hb fun f hf => h f (List.mem_cons_of_mem _ hf), W.base, W.sz, W.keep, fun b o n l h => W.img b o n l (g h), W.size, fun x v n hx h => ?_, W.df, W.wk⟩
  rcases h with ⟨h, _⟩ | ⟨_, h⟩
  · exact absurd h hne
  · exact W.tm x v n hx h

/-- A state on the way through a drawn region. -/
structure Mid (P : Program) (ng : Nat) (sm : Sums) (rec : Tk → Out) (ops : Array Oper) (s0 : St) (μ0 : Mu) (w0 : World) (a0 : Act) (M : List Res) (D : Nat → Prop) (os : List (Nat × Oper)) (d : DS) (t : List Ent) (μ : Mu) (w : World) (a : Act) : Prop where
  di : DI P ng sm rec ops s0 d t
  run : ∃ N, drawOps P ng sm rec ops os d = some N ∧ ∀ r ∈ N, r ∈ M
  cover : ∀ i, i < ops.size → (∃ e ∈ t, e.i = i) ∨ ∃ o, (i, o) ∈ os
  osok : ∀ p ∈ os, ops[p.1]? = some p.2
  hin : ∀ i, D i → ∃ e ∈ t, e.i = i
  single : ∀ e ∈ t, ¬ D e.i → e.hv = none ∨ e.one = true
  dw : DW P s0 μ0 w0 a0 D t μ w a

/-- To an operation whose turn has come: it is among the entries, or it is the next and has many outcomes. -/
theorem reach (hsx : SumsExt sm) (hrx : RecExt rec) (hc : s0.hp.nx ≤ 2 ^ HD) {M : List Res} {D : Nat → Prop} {μ : Mu} {w : World} {a : Act} (hD : Closed ops D) {i : Nat} {o : Oper} (hoi : ops[i]? = some o) (hR : Ready D o) (hne : ¬ D i) :
    ∀ {os : List (Nat × Oper)} {d : DS} {t : List Ent}, Mid P ng sm rec ops s0 μ0 w0 a0 M D os d t μ w a →
    ∃ os' d' t', Mid P ng sm rec ops s0 μ0 w0 a0 M D os' d' t' μ w a ∧ ((∃ e ∈ t', e.i = i) ∨
      ∃ os2 L, os' = (i, o) :: os2 ∧ drawOp P ng sm rec ops i o d' = some L ∧ (∀ x ∈ L, ∃ N, drawOps P ng sm rec ops os2 x = some N ∧ ∀ r ∈ N, r ∈ M) ∧
        ∃ mask vals, valOp P sm rec (evalL ng (lkMask (o.looksAt ops)) d'.s.tm) o ((view mask d'.np d'.s.hp).setLw BIG) = some vals ∧ wantedA ops d'.s.tm o = some true ∧ vals ≠ [] ∧
          ∀ q ∈ vals, ∃ d2 ∈ L, ∃ (e' : Ent) (lo : Nat), e'.i = i ∧ e'.o = o ∧ e'.hv = some ((view mask d'.np d'.s.hp).setLw BIG, q.2, lo) ∧ e'.v = q.1 ∧ e'.pre = d'.s ∧ DI P ng sm rec ops s0 d2 (e' :: t'))
  | os, d, t, m => by
    by_cases hit : ∃ e ∈ t, e.i = i
    · exact ⟨os, d, t, m, .inl hit⟩
    · obtain ⟨N, hN, hNM⟩ := m.run
      match os, m, hN with
      | [], m, _ =>
        rcases m.cover i (Array.getElem?_eq_some_iff.1 hoi).1 with h | ⟨o', h⟩
        · exact absurd h hit
        · simp at h
      | (h, oh) :: os2, m, hN =>
        obtain ⟨L, hL, hnx⟩ := drawOps_cons hN
        have hoh := m.osok _ List.mem_cons_self
        obtain ⟨mask, pr, hLne, hall, hcase⟩ := drawOp_spec hsx hrx hc m.di hoh hL
        rcases hcase with ⟨d', e', hLd, k1, k2, I', k3⟩ | ⟨hmust, vals, hvals, hw, hvne, hout⟩
        · have hne' : ¬ D e'.i := fun hd => by
            obtain ⟨r, hr, hri⟩ := m.hin _ hd
            exact pr.new r hr (hri.trans k1)
          subst hLd
          obtain ⟨N', hN', hsub⟩ := hnx d' (List.mem_singleton.2 rfl)
          refine reach hsx hrx hc hD hoi hR hne (os := os2) (d := d') (t := e' :: t) ⟨I', ⟨N', hN', fun r hr => hNM r (hsub r hr)⟩, ?_, fun p hp => m.osok p (List.mem_cons_of_mem _ hp), ?_, ?_, m.dw.more hne'⟩
          · intro j hj
            rcases m.cover j hj with ⟨r, hr, hrj⟩ | ⟨o', ho'⟩
            · exact .inl ⟨r, List.mem_cons_of_mem _ hr, hrj⟩
            · rcases List.mem_cons.1 ho' with h' | h'
              · cases h'; exact .inl ⟨e', List.mem_cons_self, k1⟩
              · exact .inr ⟨o', h'⟩
          · intro j hj
            obtain ⟨r, hr, hrj⟩ := m.hin j hj
            exact ⟨r, List.mem_cons_of_mem _ hr, hrj⟩
          · intro r hr hnd
            rcases List.mem_cons.1 hr with rfl | hr
            · exact k3
            · exact m.single r hr hnd
        · have hih : h = i := by
            rcases m.cover i (Array.getElem?_eq_some_iff.1 hoi).1 with h' | ⟨o', h'⟩
            · exact absurd h' hit
            · rcases List.mem_cons.1 h' with h' | h'
              · cases h'; rfl
              · exfalso
                obtain ⟨d', hd'⟩ := List.exists_mem_of_ne_nil _ hLne
                obtain ⟨⟨e', _, _, I'⟩, _⟩ := hall d' hd'
                obtain ⟨N', hN', _⟩ := hnx d' hd'
                have ho' := m.osok _ (List.mem_cons_of_mem _ h')
                simp only at ho'
                rw [hoi] at ho'; cases ho'
                have := next_only hsx hrx hc D hD (p := (i, o)) hR os2 d' (e' :: t) N' I' hN' (fun q hq => m.osok q (List.mem_cons_of_mem _ hq)) h' h (hmust d' hd')
                obtain ⟨r, hr, hri⟩ := m.hin _ this
                exact pr.new r hr hri
          subst hih
          simp only at hoh
          rw [hoi] at hoh; cases hoh
          exact ⟨_, d, t, m, .inr ⟨os2, L, rfl, hL, fun x hx => by obtain ⟨N', a1, a2⟩ := hnx x hx; exact ⟨N', a1, fun r hr => hNM r (a2 r hr)⟩, mask, vals, hvals, hw, hvne, hout⟩⟩
  termination_by os => os.length

/-! ### What is listed -/
def Dn (listed : Array Bool) (i : Nat) : Prop := listed.getD i false = true

theorem Dn_set {listed : Array Bool} {i : Nat} (hi : i < listed.size) : Dn (listed.setIfInBounds i true) = Plus (Dn listed) i := by
  funext j
  apply propext
  unfold Dn Plus
  by_cases hij : i = j
  · subst hij; simp [hi]
  · rw [getD_set_ne false hij]
    exact ⟨.inl, fun h => h.resolve_right (Ne.symm hij)⟩

theorem filter_less {p p' : Nat → Bool} {i : Nat} (hp : p i = true) (h : ∀ j, p' j = true → p j = true ∧ j ≠ i) : ∀ (l : List Nat), (l.filter p').length ≤ (l.filter p).length ∧ (i ∈ l → (l.filter p').length + 1 ≤ (l.filter p).length)
  | [] => ⟨Nat.le_refl _, fun h => by simp at h⟩
  | x :: l => by
    obtain ⟨h1, h2⟩ := filter_less hp h l
    simp only [List.filter_cons]
    by_cases hx : x = i
    · subst hx
      have : p' x = false := by
        cases hq : p' x with
        | false => rfl
        | true => exact absurd rfl (h x hq).2
      simp only [hp, this, if_true]
      exact ⟨by simp; omega, fun _ => by simp; omega⟩
    · cases hq : p' x with
      | true =>
        have := (h x hq).1
        simp only [this, if_true]
        refine ⟨by simp; omega, fun hm => ?_⟩
        rcases List.mem_cons.1 hm with h' | h'
        · exact absurd h'.symm hx
        · have := h2 h'; simp; omega
      | false =>
        simp only [Bool.false_eq_true, if_false]
        cases hr : p x with
        | true =>
          simp only [if_true]
          refine ⟨by simp; omega, fun hm => ?_⟩
          rcases List.mem_cons.1 hm with h' | h'
          · exact absurd h'.symm hx
          · have := h2 h'; simp; omega
        | false =>
          simp only [Bool.false_eq_true, if_false]
          refine ⟨h1, fun hm => ?_⟩
          rcases List.mem_cons.1 hm with h' | h'
          · exact absurd h'.symm hx
          · exact h2 h'

end
end Go.Ev

/-! Drawn regions, 7: the region. -/
namespace Go.Ev
open Go

section
variable {P : Program} {ng : Nat} {sm : Sums} {rec : Tk → Out} {ops : Array Oper} {s0 : St} {μ0 : Mu} {w0 : World} {a0 : Act}

theorem Tr.post_le (hc : s0.hp.nx ≤ 2 ^ HD) {t : List Ent} (h : Tr (P := P) ng sm rec ops s0 t) {e : Ent} (he : e ∈ t) : e.post.hp.nx ≤ (cur s0 t).hp.nx := by
  obtain ⟨u, v, hs⟩ := List.append_of_mem he
  have := Tr.nx_le hc (t2 := u) (t1 := e :: v) (by rw [← hs]; exact h)
  rw [← hs] at this
  exact this

/-- All done. -/
theorem draw_end (hc : s0.hp.nx ≤ 2 ^ HD) (hnt : s0.ntm ≤ 2 ^ TD) (hlow : Low μ0 s0.hp.nx) (hg : GlR μ0 ng) (hpin : PinR P μ0 s0.hp w0) (hdf : DfsR μ0 s0.df a0.defers) {D : Nat → Prop} {t : List Ent} {μ : Mu} {w : World} {a : Act} (hT : Tr (P := P) ng sm rec ops s0 t) (W : DW P s0 μ0 w0 a0 D t μ w a) (hall : ∀ e ∈ t, D e.i) :
    OKm P ng μ (cur s0 t).hp w ∧ Fr μ0 s0.hp w0 μ (cur s0 t).hp w ∧ StR μ (cur s0 t) a := by
  have g := hT.grown hc
  have hgl : ∀ {b o}, LiveAt (cur s0 t).hp b o → ∃ n, GL D s0.hp t b o n := fun h => by
    obtain ⟨n, _, h2⟩ := GL_all (D := D) hT hc (fun t1 r t2 he _ => hall r (by rw [he]; simp)) h
    exact ⟨n, h2⟩
  have hle : μ0.le μ := fun b l h => by rw [W.base b (hlow.some h)]; exact h
  have hfr : ∀ b, (cur s0 t).hp.nx ≤ b → μ b = none := fun b hb => by
    refine W.none b (Nat.le_trans g.nx hb) fun e he _ hr => ?_
    have := hT.post_le hc he
    omega
  refine ⟨⟨⟨?_, ?_, g.cap⟩, hfr, hg.mono hle, hpin.of W.keep fun b l ⟨o, h1, d1⟩ hm hlt => by obtain ⟨n, h⟩ := hgl ⟨h1, d1⟩; exact W.img b o n l h hm hlt⟩, ⟨hle, ?_, g.nx, W.sz, W.keep, ?_, (hT.ext hc).lw, (hT.ext hc).old hc, W.wk⟩, ⟨?_, ?_⟩⟩
  · intro b o hb hd
    obtain ⟨n, h⟩ := hgl ⟨hb, hd⟩
    exact (W.live b o n h).1
  · rintro b1 b2 l1 l2 ⟨o1, h1, d1⟩ ⟨o2, h2, d2⟩ e1 e2 he
    obtain ⟨n1, g1⟩ := hgl ⟨h1, d1⟩
    obtain ⟨n2, g2⟩ := hgl ⟨h2, d2⟩
    exact W.inj b1 b2 o1 o2 n1 n2 l1 l2 g1 g2 e1 e2 he
  · rintro b (hb | hb)
    · exact W.base b hb
    · rw [hfr b hb, hlow b (Nat.le_trans g.nx hb)]
  · rintro b l ⟨o, h1, d1⟩ hm hlt
    obtain ⟨n, h⟩ := hgl ⟨h1, d1⟩
    exact W.img b o n l h hm hlt
  · refine ⟨by rw [W.size, g.ntm], by rw [g.ntm]; exact hnt, fun x v hx hv => ?_⟩
    obtain ⟨n, _, hk⟩ := KL_all (D := D) hT hc hnt hx (fun r hr _ => hall r hr) hv
    obtain ⟨v', h1, h2, _⟩ := W.tm x v n hx hk
    exact ⟨v', h1, h2⟩
  · rw [g.rest.1, W.df]; exact hdf.mono hle

theorem draw_start (hO : OKm P ng μ0 s0.hp w0) (hS : StR μ0 s0 a0) (D : Nat → Prop) : DW P s0 μ0 w0 a0 D [] μ0 w0 a0 := by
  refine ⟨?_, ?_, fun b hb _ => hO.fr b hb, fun _ _ => rfl, Nat.le_refl _, fun _ _ _ => rfl, ?_, hS.tm.1, ?_, rfl, WK.refl _⟩
  · rintro b o n ⟨⟨h, hd⟩, rfl⟩
    obtain ⟨l, o', h1, h2, h3⟩ := hO.wr.live b o h hd
    exact ⟨⟨l, o', h1, h2, h3⟩, μ0, l, o', hO.fr, h3⟩
  · rintro b1 b2 o1 o2 n1 n2 l1 l2 ⟨⟨h1, d1⟩, _⟩ ⟨⟨h2, d2⟩, _⟩ e1 e2 he
    exact hO.wr.inj b1 b2 l1 l2 ⟨o1, h1, d1⟩ ⟨o2, h2, d2⟩ e1 e2 he
  · rintro b o n l ⟨⟨h, hd⟩, _⟩ hm _
    exact ⟨b, l, ⟨o, h, hd⟩, hm, rfl⟩
  · rintro x v n hx ⟨h, rfl⟩
    obtain ⟨v', h1, h2⟩ := hS.tm.2.2 x v hx h
    exact ⟨v', h1, h2, μ0, v', hO.fr, h2⟩

/-- All entries done, and no operation left. -/
theorem all_done (hsx : SumsExt sm) (hrx : RecExt rec) (hc : s0.hp.nx ≤ 2 ^ HD) {M : List Res} {D : Nat → Prop} {os : List (Nat × Oper)} {d : DS} {t : List Ent} {μ : Mu} {w : World} {a : Act} (m : Mid P ng sm rec ops s0 μ0 w0 a0 M D os d t μ w a)
    (hno : ∀ i o, ops[i]? = some o → Ready D o → D i) : os = [] ∧ ∀ e ∈ t, D e.i := by
  have h1 : ∀ {t : List Ent}, Tr (P := P) ng sm rec ops s0 t → ∀ e ∈ t, D e.i := by
    intro t h
    induction h with
    | nil => intro e he; simp at he
    | cons ht k ih =>
      rename_i e t
      intro f hf
      rcases List.mem_cons.1 hf with rfl | hf
      · refine hno _ _ k.op fun x hx hb => ?_
        obtain ⟨r, hr, hri⟩ := k.on x hx hb
        rw [← hri]; exact ih r hr
      · exact ih f hf
  have h2 := h1 m.di.tr
  refine ⟨?_, h2⟩
  match os, m with
  | [], _ => rfl
  | (i, o) :: os2, m =>
    exfalso
    obtain ⟨N, hN, _⟩ := m.run
    obtain ⟨L, hL, _⟩ := drawOps_cons hN
    have hoi : ops[i]? = some o := m.osok (i, o) List.mem_cons_self
    obtain ⟨mask, pr, _⟩ := drawOp_spec hsx hrx hc m.di hoi hL
    have hd : D i := hno i o hoi fun x hx hb => by
      obtain ⟨r, hr, hri⟩ := pr.on x hx hb
      rw [← hri]; exact h2 r hr
    obtain ⟨r, hr, hri⟩ := m.hin i hd
    exact pr.new r hr hri

structure Env (P : Program) (ng : Nat) (sm : Sums) (rec : Tk → Out) (s0 : St) (μ0 : Mu) (w0 : World) (a0 : Act) (k : Kd) (b : Frame) (u : FrameMode) : Prop where
  hs : SumsOK P ng sm
  hr : RecOK P ng rec
  hsx : SumsExt sm
  hrx : RecExt rec
  ok : OKm P ng μ0 s0.hp w0
  st : StR μ0 s0 a0
  kd : KdR μ0 k b
  md : MdR μ0 s0.md u

theorem goes_end {k : Kd} {b : Frame} {u : FrameMode} (E : Env P ng sm rec s0 μ0 w0 a0 k b u) {M : List Res} {D : Nat → Prop} {os : List (Nat × Oper)} {d : DS} {t : List Ent} {μ : Mu} {w : World} {a : Act} (m : Mid P ng sm rec ops s0 μ0 w0 a0 M D os d t μ w a)
    (hno : ∀ i o, ops[i]? = some o → Ready D o → D i) {K : List Item} {cs : List Frame} :
    Goes P ng k.dfr (lone (b.atR a (.inRegion ops [] :: K)) (setMd k.dfr u cs) w) b K cs μ0 s0.hp w0 M := by
  have hc := E.ok.wr.cap
  obtain ⟨hos, hall⟩ := all_done E.hsx E.hrx hc m hno
  subst hos
  obtain ⟨N, hN, hNM⟩ := m.run
  simp only [drawOps, Option.some.injEq] at hN
  subst hN
  obtain ⟨h1, h2, h3⟩ := draw_end hc E.st.tm.2.1 E.ok.fr E.ok.gl E.ok.pin E.st.df m.di.tr m.dw hall
  have g := m.di.tr.grown hc
  refine ⟨.normal, d.s, μ, w, a, u, .normal, hNM _ (List.mem_singleton.2 rfl), ⟨.normal, ?_, ?_, ?_, ?_⟩, .one stepR_region_end⟩
  · rw [m.di.s]; exact h1
  · rw [m.di.s]; exact h2
  · rw [m.di.s]; exact h3
  · rw [m.di.s, g.rest.2]; exact E.md.mono h2.le

theorem draw_go {k : Kd} {b : Frame} {u : FrameMode} (E : Env P ng sm rec s0 μ0 w0 a0 k b u) {M : List Res} {K : List Item} {cs : List Frame} : ∀ (fuel tt : Nat) (listed : Array Bool) (os : List (Nat × Oper)) (d : DS) (t : List Ent) (μ : Mu) (w : World) (a : Act),
    listed.size = ops.size → Closed ops (Dn listed) → Mid P ng sm rec ops s0 μ0 w0 a0 M (Dn listed) os d t μ w a → ((List.range ops.size).filter fun i => !listed.getD i true).length ≤ fuel →
    Goes P ng k.dfr (lone (b.atR a (.inRegion ops (Region.linearise.go .any ops fuel tt listed []) :: K)) (setMd k.dfr u cs) w) b K cs μ0 s0.hp w0 M := by
  intro fuel
  induction fuel with
  | zero =>
    intro tt listed os d t μ w a hsz hcl m hcnt
    refine goes_end E m fun i o hoi _ => ?_
    have hi : i < ops.size := (Array.getElem?_eq_some_iff.1 hoi).1
    have h0 := List.eq_nil_of_length_eq_zero (Nat.le_zero.1 hcnt)
    have := List.filter_eq_nil_iff.1 h0 i (by simpa using hi)
    have hl : i < listed.size := by omega
    simp [hl] at this
    simp [Dn, hl, this]
  | succ fuel ih =>
    intro tt listed os d t μ w a hsz hcl m hcnt
    have hc := E.ok.wr.cap
    simp only [Region.linearise.go]
    change Goes P ng k.dfr (lone (b.atR a (.inRegion ops (match (Region.ready .any ops listed)[tt % (Region.ready .any ops listed).length]? with
      | some i => Region.linearise.go .any ops fuel (tt / (Region.ready .any ops listed).length) (listed.setIfInBounds i true) [i]
      | none => [].reverse) :: K)) (setMd k.dfr u cs) w) b K cs μ0 s0.hp w0 M
    cases hi : (Region.ready .any ops listed)[tt % (Region.ready .any ops listed).length]? with
    | none =>
      have hnil : Region.ready .any ops listed = [] := by
        cases hr : Region.ready .any ops listed with
        | nil => rfl
        | cons x xs =>
          rw [hr] at hi
          have hlt : tt % (x :: xs).length < (x :: xs).length := Nat.mod_lt _ (by simp)
          simp at hi
          simp at hlt
          omega
      refine goes_end E m fun i o hoi hR => ?_
      have hi : i < listed.size := by rw [hsz]; exact (Array.getElem?_eq_some_iff.1 hoi).1
      cases hq : listed.getD i false with
      | true => exact hq
      | false =>
        have : i ∈ Region.ready .any ops listed := by
          rw [mem_ready]
          refine ⟨?_, o, hoi, fun e he hb => hR e he hb⟩
          simp [hi] at hq ⊢; exact hq
        rw [hnil] at this; cases this
    | some i =>
      simp only []
      rw [linearise_go_acc, List.reverse_singleton, List.singleton_append]
      have hmem := List.mem_of_getElem? hi
      obtain ⟨hun, o, hoi, hdeps⟩ := mem_ready.1 hmem
      have hil : i < listed.size := by rw [hsz]; exact (Array.getElem?_eq_some_iff.1 hoi).1
      have hR : Ready (Dn listed) o := fun x hx hb => hdeps x hx hb
      have hne : ¬ Dn listed i := by
        simp [hil] at hun
        simp [Dn, hil, hun]
      have hcl' : Closed ops (Dn (listed.setIfInBounds i true)) := by
        rw [Dn_set hil]
        rintro j oj (hj | rfl) hoj x hx hb
        · exact .inl (hcl j oj hj hoj x hx hb)
        · rw [hoi] at hoj; cases hoj; exact .inl (hR x hx hb)
      have hcnt' : ((List.range ops.size).filter fun j => !(listed.setIfInBounds i true).getD j true).length ≤ fuel := by
        have := (filter_less (p := fun j => !listed.getD j true) (p' := fun j => !(listed.setIfInBounds i true).getD j true) (i := i) (by simpa using hun) (fun j hj => by
          by_cases hij : i = j
          · subst hij; simp [hil] at hj
          · rw [getD_set_ne true hij] at hj; exact ⟨hj, Ne.symm hij⟩) (List.range ops.size)).2 (by simp; omega)
        omega
      obtain ⟨os', d', t', m', hcase⟩ := reach E.hsx E.hrx hc hcl hoi hR hne m
      rcases hcase with ⟨e, he, hei⟩ | ⟨os2, L, hos, hL, hnx, mask, vals, hvals, hw, hvne, hout⟩
      · obtain ⟨t2, t1, hs⟩ := List.append_of_mem he
        have hTr := m'.di.tr
        have hdw := m'.dw
        rw [hs] at hTr hdw
        have heo : e.o = o := by
          have := hTr.at.1.op
          rw [hei, hoi] at this; cases this; rfl
        have T : Turn P ng sm rec ops s0 (Dn listed) t2 e t1 := ⟨hTr, hc, E.st.tm.2.1, hcl, by rw [hei]; exact hne, by rw [heo]; exact hR⟩
        obtain ⟨μ', w', v', hst, hdw'⟩ := T.run hdw E.hs E.hr E.ok.fr E.ok.gl E.ok.pin E.kd (K := K) (cs := setMd k.dfr u cs) (rest := Region.linearise.go .any ops fuel (tt / (Region.ready .any ops listed).length) (listed.setIfInBounds i true) []) (m'.single e he (by rw [hei]; exact hne))
        rw [hei] at hst hdw'
        refine Goes.head hst (ih _ _ os' d' t' μ' w' _ (by simp [hsz]) hcl' ⟨m'.di, m'.run, m'.cover, m'.osok, ?_, ?_, ?_⟩ hcnt')
        · rw [Dn_set hil]
          rintro j (hj | rfl)
          · exact m'.hin j hj
          · exact ⟨e, he, hei⟩
        · intro r hr hnd
          rw [Dn_set hil] at hnd
          exact m'.single r hr fun h => hnd (.inl h)
        · rw [Dn_set hil, hs]; exact hdw'
      · subst hos
        have mk : ∀ (e' : Ent) (d2 : DS), e'.i = i → e'.o = o → DI P ng sm rec ops s0 d2 (e' :: t') → Turn P ng sm rec ops s0 (Dn listed) [] e' t' := by
          intro e' d2 h1 h2 I
          exact ⟨I.tr, hc, E.st.tm.2.1, hcl, by rw [h1]; exact hne, by rw [h2]; exact hR⟩
        obtain ⟨q0, hq0⟩ := List.exists_mem_of_ne_nil _ hvne
        obtain ⟨d0, _, e0, lo0, f1, f2, f3, f4, f5, f6⟩ := hout q0 hq0
        have T0 := mk e0 d0 f1 f2 f6
        have W0 : DW P s0 μ0 w0 a0 (Dn listed) ([] ++ e0 :: t') μ w a := m'.dw.more (by rw [f1]; exact hne)
        have hw0 : Region.wanted o (yielded ops a.tmps) = true := by
          have := T0.wanted W0 (c := true) (by rw [f5, f2]; exact hw)
          rw [f2] at this; exact this
        have henv := T0.env W0 E.ok.fr E.ok.gl
        rw [T0.ok.lk, f5, f2] at henv
        have hokm := T0.okm W0 E.ok.fr E.ok.gl E.ok.pin f3
        rw [f5] at hokm
        obtain ⟨v, V', μ', w', v', hm, hst, hwr, hf, hvr⟩ := valOp_runs (K := K) (cs := setMd k.dfr u cs) (rest := Region.linearise.go .any ops fuel (tt / (Region.ready .any ops listed).length) (listed.setIfInBounds i true) []) E.hs E.hr hvals hokm E.kd henv hoi hw0
        obtain ⟨d2, hd2, e2, lo2, g1, g2, g3, g4, g5, g6⟩ := hout (v, V') hm
        have T2 := mk e2 d2 g1 g2 g6
        have W2 : DW P s0 μ0 w0 a0 (Dn listed) ([] ++ e2 :: t') μ w a := m'.dw.more (by rw [g1]; exact hne)
        have hdw' := T2.step_heap W2 (V' := V') g3 hwr (by rw [g5]; exact hf) (by rw [g4]; exact hvr)
        rw [g1, g2] at hdw'
        obtain ⟨N, hN, hNM⟩ := hnx d2 hd2
        refine Goes.head hst (ih _ _ os2 d2 (e2 :: t') (μ.join μ' e2.pre.hp.nx e2.post.hp.nx) w' (a.put o.dst v') (by simp [hsz]) hcl' ⟨g6, ⟨N, hN, hNM⟩, ?_, fun p hp => m'.osok p (List.mem_cons_of_mem _ hp), ?_, ?_, ?_⟩ hcnt')
        · intro j hj
          rcases m'.cover j hj with ⟨r, hr, hrj⟩ | ⟨o', ho'⟩
          · exact .inl ⟨r, List.mem_cons_of_mem _ hr, hrj⟩
          · rcases List.mem_cons.1 ho' with h' | h'
            · cases h'; exact .inl ⟨e2, List.mem_cons_self, g1⟩
            · exact .inr ⟨o', h'⟩
        · rw [Dn_set hil]
          rintro j (hj | rfl)
          · obtain ⟨r, hr, hrj⟩ := m'.hin j hj
            exact ⟨r, List.mem_cons_of_mem _ hr, hrj⟩
          · exact ⟨e2, List.mem_cons_self, g1⟩
        · intro r hr hnd
          rw [Dn_set hil] at hnd
          rcases List.mem_cons.1 hr with rfl | hr
          · exact absurd (.inr g1) hnd
          · exact m'.single r hr fun h => hnd (.inl h)
        · rw [Dn_set hil]; exact hdw'

theorem enum_mem (l : List Oper) : ∀ (n i : Nat) (o : Oper), l[i]? = some o → (n + i, o) ∈ enum n l := by
  induction l with
  | nil => intro n i o h; simp at h
  | cons x xs ih =>
    intro n i o h
    cases i with
    | zero => simp at h; subst h; exact List.mem_cons_self
    | succ i =>
      have := ih (n + 1) i o (by simpa using h)
      rw [show n + (i + 1) = n + 1 + i by omega]
      exact List.mem_cons_of_mem _ this
theorem enum_ok (l : List Oper) : ∀ (n : Nat) (p : Nat × Oper), p ∈ enum n l → ∃ i, p.1 = n + i ∧ l[i]? = some p.2 := by
  induction l with
  | nil => intro n p h; simp [enum] at h
  | cons x xs ih =>
    intro n p h
    rcases List.mem_cons.1 h with rfl | h
    · exact ⟨0, rfl, by simp⟩
    · obtain ⟨i, h1, h2⟩ := ih (n + 1) p h
      exact ⟨i + 1, by omega, by simpa using h2⟩
theorem early_sub (l : List (Nat × Oper)) : ∀ (done : Nat) (p : Nat × Oper), p ∈ early done l → p ∈ l := by
  induction l with
  | nil => intro done p h; simp [early] at h
  | cons x l ih =>
    intro done p h
    obtain ⟨i, o⟩ := x
    unfold early at h
    split at h
    · rcases List.mem_cons.1 h with rfl | h
      · exact List.mem_cons_self
      · exact List.mem_cons_of_mem _ (ih _ _ h)
    · exact List.mem_cons_of_mem _ (ih _ _ h)
theorem bitsOf_mem (l : List (Nat × Oper)) : ∀ (i : Nat), Nat.testBit (bitsOf l) i = true → ∃ o, (i, o) ∈ l := by
  induction l with
  | nil => intro i h; simp [bitsOf] at h
  | cons x l ih =>
    intro i h
    obtain ⟨j, o⟩ := x
    have h : Nat.testBit (2 ^ j ||| bitsOf l) i = true := h
    rw [Nat.testBit_or, Bool.or_eq_true, Nat.testBit_two_pow] at h
    rcases h with h | h
    · have : j = i := of_decide_eq_true h
      subst this; exact ⟨o, List.mem_cons_self⟩
    · obtain ⟨o', h'⟩ := ih i h
      exact ⟨o', List.mem_cons_of_mem _ h'⟩

theorem order2_sub : ∀ (n done : Nat) (l : List (Nat × Oper)) {p : Nat × Oper}, p ∈ order2 n done l → p ∈ l := by
  intro n
  induction n with
  | zero => intro done l p h; exact h
  | succ n ih =>
    intro done l p h
    unfold order2 at h
    simp only at h
    rcases List.mem_append.1 h with h | h
    · exact early_sub _ _ _ h
    · split at h
      · cases h
      · rename_i q r hq
        have sub : ∀ x, x ∈ q :: r → x ∈ l := fun x hx => by rw [← hq] at hx; exact (List.mem_filter.1 hx).1
        rcases List.mem_cons.1 h with rfl | h
        · exact sub _ List.mem_cons_self
        · exact sub _ (List.mem_cons_of_mem _ (ih _ _ h))
theorem order2_all : ∀ (n done : Nat) (l : List (Nat × Oper)) {p : Nat × Oper}, p ∈ l → ∃ o, (p.1, o) ∈ order2 n done l := by
  intro n
  induction n with
  | zero => intro done l p h; exact ⟨p.2, h⟩
  | succ n ih =>
    intro done l p h
    unfold order2
    simp only
    cases hq : Nat.testBit (bitsOf (early done l)) p.1 with
    | true =>
      obtain ⟨o, ho⟩ := bitsOf_mem _ _ hq
      exact ⟨o, List.mem_append_left _ ho⟩
    | false =>
      have hm : p ∈ l.filter fun p => !Nat.testBit (bitsOf (early done l)) p.1 := List.mem_filter.2 ⟨h, by simp [hq]⟩
      split
      · rename_i e; rw [e] at hm; cases hm
      · rename_i q r e
        rw [e] at hm
        rcases List.mem_cons.1 hm with rfl | hm
        · exact ⟨p.2, List.mem_append_right _ List.mem_cons_self⟩
        · obtain ⟨o, ho⟩ := ih (Nat.lor (Nat.lor done (bitsOf (early done l))) (2 ^ q.1)) r hm
          exact ⟨o, List.mem_append_right _ (List.mem_cons_of_mem _ ho)⟩
theorem order_sub {l : List (Nat × Oper)} {p : Nat × Oper} (h : p ∈ order l) : p ∈ l := order2_sub _ _ _ h
theorem order_all {l : List (Nat × Oper)} {p : Nat × Oper} (h : p ∈ l) : ∃ o, (p.1, o) ∈ order l := order2_all _ _ _ h

/-- **A drawn region.** -/
theorem drawR_ok (hmix : P.follows .mixedOrders = true) (hs : SumsOK P ng sm) (hr : RecOK P ng rec) (hsx : SumsExt sm) (hrx : RecExt rec) {k : Kd} {id : Nat} {ops : Array Oper} {s : St} {M : List Res} (e : drawR P ng sm rec ops s = some M) : CodeOK P ng k (.region id ops true) s M := by
  intro μ w b K cs a u ho hk hcs hu hst
  have hmd : ({ w with drawn := w.drawn + 1 } : World).heap = w.heap := rfl
  have ho' : OKm P ng μ s.hp { w with drawn := w.drawn + 1 } := ho.heap hmd
  refine Goes.head (.one stepR_region_draw) (Goes.from (Fr.heap hmd rfl rfl) ?_)
  simp only [Region.schedule, hmix, Bool.true_or, if_true]
  unfold drawR at e
  simp only at e
  split at e
  · have E : Env P ng sm rec s μ { w with drawn := w.drawn + 1 } a k b u := ⟨hs, hr, hsx, hrx, ho', hst, hk, hu⟩
    refine draw_go E ops.size _ (Array.replicate ops.size false) (order (enum 0 ops.toList)) { s, nx0 := s.hp.nx, masks := .e, recs := [], np := [], done := 0, must := 0 } [] μ _ a (by simp) ?_ ?_ ?_
    · intro i o hi
      exfalso
      unfold Dn at hi
      rcases Nat.lt_or_ge i ops.size with h | h
      · simp [h] at hi
      · simp [h] at hi
    · have hnd : ∀ i, ¬ Dn (Array.replicate ops.size false) i := by
        intro i hi
        unfold Dn at hi
        rcases Nat.lt_or_ge i ops.size with h | h
        · simp [h] at hi
        · simp [h] at hi
      refine ⟨⟨.nil, rfl, rfl, rfl, rfl, fun j => by simp, fun i m _ h => by rw [T.get_e] at h; cases h⟩, ⟨M, e, fun _ h => h⟩, fun i hi => .inr ?_, fun p hp => ?_, fun i hi => absurd hi (hnd i), fun e he => by simp at he, draw_start ho' hst _⟩
      · have h1 : ops.toList[i]? = some ops[i] := by simp [hi]
        have := enum_mem _ 0 _ _ h1
        rw [Nat.zero_add] at this
        exact order_all this
      · obtain ⟨i, h1, h2⟩ := enum_ok _ _ _ (order_sub hp)
        rw [h1, Nat.zero_add]; simpa using h2
    · refine Nat.le_trans (List.length_filter_le _ _) ?_
      simp
  · cases e

end
end Go.Ev

/-! The growth of the heap through the whole evaluator; and the evaluator's word. -/
namespace Go.Ev
open Go

section
variable {P : Program} {ng : Nat} {sm : Sums} {rec : Tk → Out}

theorem bindD_back {f : DS → Out} (L : List DS) : ∀ (M : List Res), bindD f L = some M → ∀ r ∈ M, ∃ x ∈ L, ∃ N, f x = some N ∧ r ∈ N := by
  induction L with
  | nil => intro M e r hr; cases e; simp at hr
  | cons y L ih =>
    intro M e r hr
    cases L with
    | nil => exact ⟨y, List.mem_cons_self, M, e, hr⟩
    | cons z zs =>
      unfold bindD at e
      simp only at e
      split at e
      · rename_i l hl
        split at e
        · rename_i m hm
          cases e
          rcases List.mem_append.1 hr with hr | hr
          · exact ⟨y, List.mem_cons_self, l, hl, hr⟩
          · obtain ⟨x, hx, k⟩ := ih m hm r hr
            exact ⟨x, List.mem_cons_of_mem _ hx, k⟩
        · cases e
      · cases e

theorem drawOps_ext (hsx : SumsExt sm) (hrx : RecExt rec) {ops : Array Oper} {s0 : St} (hc : s0.hp.nx ≤ 2 ^ HD) (os : List (Nat × Oper)) : ∀ (d : DS) (t : List Ent) (M : List Res), DI P ng sm rec ops s0 d t → drawOps P ng sm rec ops os d = some M → (∀ p ∈ os, ops[p.1]? = some p.2) →
    ∀ r ∈ M, Ext s0.hp r.heap := by
  induction os with
  | nil =>
    intro d t M I e _ r hr
    simp only [drawOps, Option.some.injEq] at e
    subst e
    simp only [List.mem_singleton] at hr
    subst hr
    show Ext s0.hp d.s.hp
    rw [I.s]; exact I.tr.ext hc
  | cons p os ih =>
    intro d t M I e hos r hr
    obtain ⟨i, o⟩ := p
    unfold drawOps at e
    split at e
    · rename_i L hL
      obtain ⟨x, hx, N, hN, hrN⟩ := bindD_back L M e r hr
      have hq : ops[i]? = some o := hos (i, o) List.mem_cons_self
      obtain ⟨mask, pr, hne, hall, _⟩ := drawOp_spec hsx hrx hc I hq hL
      obtain ⟨⟨e', _, _, I'⟩, _⟩ := hall x hx
      exact ih x (e' :: t) N I' hN (fun q hq => hos q (List.mem_cons_of_mem _ hq)) r hrN
    · cases e

theorem drawR_ext (hsx : SumsExt sm) (hrx : RecExt rec) {ops : Array Oper} {s : St} : OutExt s.hp (drawR P ng sm rec ops s) := by
  intro M e
  unfold drawR at e
  simp only at e
  split at e
  · rename_i hb
    refine drawOps_ext hsx hrx (s0 := s) (Nat.le_of_ble_eq_true hb) _ _ [] M ⟨.nil, rfl, rfl, rfl, rfl, fun j => by simp, fun i m _ h => by rw [T.get_e] at h; cases h⟩ e (fun p hp => ?_)
    obtain ⟨i, h1, h2⟩ := enum_ok _ _ _ (order_sub hp)
    rw [h1, Nat.zero_add]; simpa using h2
  · cases e

theorem endLoopA_ext {h0 : Hp} {l : Nat} {s : St} {h : Hp} (e : Ext h0 h) : OutExt h0 (endLoopA l s h) := by
  unfold endLoopA
  repeat' split
  all_goals first
    | exact .none
    | exact .one (e.trans (.put ‹_›))

theorem enterA_ext {k : Kd} {s s1 : St} {ps : Array Tmp} {as bd : Code} {l : Nat} (e : enterA k s ps as bd = some (l, s1)) : Ext s.hp s1.hp := by
  unfold enterA at e
  split at e
  · split at e
    · rename_i r1 r2
      cases e
      exact (Ext.new r1).trans (Ext.new r2)
    · cases e
  · split at e
    · rename_i r1
      cases e
      exact Ext.new r1
    · cases e

theorem rangeA_ext (hsx : SumsExt sm) (hrx : RecExt rec) {k : Kd} {s : St} {g : Operand} {ps : Array Tmp} {as bd : Code} : OutExt s.hp (rangeA P ng sm rec k s g ps as bd) := by
  unfold rangeA
  split
  · rename_i v l s1 hv hen
    have h1 := enterA_ext hen
    split
    · refine bindO_ext ((doCall_ext hsx hrx _ _ s1.hp).trans h1) fun r hr => ?_
      cases r with
      | ret v h md => exact endLoopA_ext hr
      | pan ch h md => exact .one hr
      | out x s => exact .none
    · exact .none
  · exact .none

theorem endRoundA_ext {h0 : Hp} {l : Nat} {j : Option Code} {h : Hp} (e : Ext h0 h) : OutExt h0 (endRoundA l j h) := by
  unfold endRoundA
  repeat' split
  all_goals first
    | exact .none
    | exact .one (e.trans (.put ‹_›))

theorem roundA_ext (hrx : RecExt rec) {l : Nat} {fn : FuncId} {tm : T Value} {ntm : Nat} {as bd : Code} {h : Hp} : OutExt h (roundA rec l fn tm ntm as bd h) := by
  unfold roundA
  refine bindO_ext (hrx (.code _ as ⟨tm, ntm, [], h, .run⟩)) fun r hr => ?_
  split
  · rename_i s
    have hr : Ext h s.hp := hr
    split
    · rename_i h1 hb
      have h2 : Ext s.hp h1 := by
        unfold beginRoundA at hb
        split at hb
        · cases hb; exact .put ‹_›
        · cases hb
      refine bindO_ext ((hrx (.code _ bd { s with hp := h1 })).trans (hr.trans h2)) fun q hq => ?_
      split
      · exact endRoundA_ext hq
      · exact endRoundA_ext hq
      · exact endRoundA_ext hq
      · exact .none
    · exact .none
  · exact .none

theorem unwindA_ext (hrx : RecExt rec) {fn : Func} {tm : T Value} {md : FrameMode} {h0 : Hp} (ds : List Deferred) : ∀ (h : Hp) (u : FrameMode), Ext h0 h → OutExt h0 (unwindA P rec fn tm md ds h u) := by
  induction ds with
  | nil =>
    intro h u e
    unfold unwindA
    repeat' split
    all_goals first
      | exact .none
      | exact .one e
  | cons d ds ih =>
    intro h u e
    unfold unwindA
    split
    · exact .none
    · split
      · rename_i h1 hb
        refine ih h1 _ (e.trans ?_)
        unfold takeA at hb
        split at hb
        · cases hb; exact .put ‹_›
        · cases hb
      · exact .none
    · split
      · split
        · refine bindO_ext ((hrx (.call _ _ true h _)).trans e) fun r hr => ?_
          cases r with
          | ret v h1 u1 => exact ih h1 _ hr
          | pan ch h1 u1 => exact ih h1 _ hr
          | out x s => exact .none
        · exact .none
      · exact .none
    · exact .none

theorem callA_ext (hrx : RecExt rec) {f : FuncId} {args : List Value} {dfr : Bool} {h : Hp} {md : FrameMode} : OutExt h (callA P rec f args dfr h md) := by
  unfold callA
  split
  · split
    · split
      · refine bindO_ext (hrx (.code _ _ ⟨argsT 0 .e args, _, [], h, mdOf dfr md⟩)) fun r hr => ?_
        split
        · exact unwindA_ext hrx _ _ _ hr
        · exact unwindA_ext hrx _ _ _ hr
        · exact unwindA_ext hrx _ _ _ hr
        · exact .none
      · exact .none
    · exact .none
  · exact .none

theorem loopA_ext (hrx : RecExt rec) {k : Kd} {c : Code} {s : St} : OutExt s.hp (loopA rec k c s) := by
  unfold loopA
  refine bindO_ext (hrx (.code k c s)) fun r hr => ?_
  split
  · exact (hrx (.loop k c _)).trans hr
  · exact .one hr
  · exact .none

theorem stepA_ext (hsx : SumsExt sm) (hrx : RecExt rec) : RecExt (stepA P ng sm rec) := by
  intro tk
  cases tk with
  | loop k c s => exact loopA_ext hrx
  | call f args dfr h md => exact callA_ext hrx
  | round l fn tm ntm as bd h => exact roundA_ext hrx
  | code k c s =>
    show OutExt s.hp _
    cases c with
    | skip => exact .one (.refl _)
    | seq x y =>
      refine bindO_ext (hrx (.code k x s)) fun r hr => ?_
      split
      · exact (hrx (.code k y _)).trans hr
      · exact .one hr
      · exact .none
    | cond c x y =>
      simp only [stepA]
      split
      · exact hrx (.code k x s)
      · exact hrx (.code k y s)
      · exact .none
    | block id c =>
      refine bindO_ext (hrx (.code k c s)) fun r hr => ?_
      split
      · split
        · exact .one hr
        · exact .one hr
      · exact .one hr
      · exact .none
    | loop c => exact loopA_ext hrx
    | region id ops draw =>
      simp only [stepA]
      split
      · exact runOps_ext hsx hrx
      · exact drawR_ext hsx hrx
    | rangeFunc g ps as bd => exact rangeA_ext hsx hrx
    | exit id => exact .one (.refl _)
    | ret => exact .one (.refl _)
    | _ => exact .none

theorem ev_ext (hsx : SumsExt sm) (n : Nat) : RecExt (ev P ng sm n) := by
  induction n with
  | zero => intro tk L e; cases e
  | succ n ih => exact stepA_ext hsx ih

/-! ### The evaluator's word -/
theorem stepA_ok (hmix : P.follows .mixedOrders = true) (hng : ∀ (g : FuncId) (fn : Func), P.funcs[g]? = some fn → ¬ fn.name = "runtime.NumGoroutine") (hs : SumsOK P ng sm) (hsx : SumsExt sm) (hr : RecOK P ng rec) (hrx : RecExt rec) : RecOK P ng (stepA P ng sm rec) := by
  intro tk L e
  cases tk with
  | loop k c s =>
    intro μ w b K cs a u ho hk hcs hu hst
    exact (loop_ok hr e ho hk hcs hu hst).head (.one stepR_inLoop)
  | call f args dfr h md => exact call_ok hr hng e
  | round l fn tm ntm as bd h => exact round_ok hr e
  | code k c s =>
    show CodeOK P ng k c s L
    cases c with
    | skip =>
      cases e
      exact code_one (e := .normal) (fun _ => .normal) fun b K cs a w => .one stepR_skip
    | seq x y => exact seq_ok hr e
    | cond c x y =>
      intro μ w b K cs a u ho hk hcs hu hst
      simp only [stepA] at e
      split at e
      · rename_i hc
        have hv := (evalX_ok ho.gl hst.tm hc).bool_inv
        have hx : CodeOK P ng k x s L := hr _ _ e
        exact (hx μ w b K cs a u ho hk hcs hu hst).head (.one (stepR_cond (t := true) hv))
      · rename_i hc
        have hv := (evalX_ok ho.gl hst.tm hc).bool_inv
        have hx : CodeOK P ng k y s L := hr _ _ e
        exact (hx μ w b K cs a u ho hk hcs hu hst).head (.one (stepR_cond (t := false) hv))
      · cases e
    | block id c => exact block_ok hr e
    | loop c =>
      intro μ w b K cs a u ho hk hcs hu hst
      exact (loop_ok hr e ho hk hcs hu hst).head (.one stepR_loop)
    | region id ops draw =>
      simp only [stepA] at e
      split at e
      · intro μ w b K cs a u ho hk hcs hu hst
        exact (runOps_ok hs hr (zip_all ops) e ho hk hcs hu hst).head (.one stepR_region)
      · exact drawR_ok hmix hs hr hsx hrx e
    | rangeFunc g ps as bd => exact range_ok hs hr e
    | exit id =>
      cases e
      exact code_one (e := .exit id) (fun _ => .exit id) fun b K cs a w => ⟨K, rfl, .refl _ _⟩
    | ret =>
      cases e
      exact code_one (e := .ret) (fun _ => .ret) fun b K cs a w => ⟨K, .refl _ _⟩
    | _ => cases e

theorem ev_ok (hmix : P.follows .mixedOrders = true) (hng : ∀ (g : FuncId) (fn : Func), P.funcs[g]? = some fn → ¬ fn.name = "runtime.NumGoroutine") (hs : SumsOK P ng sm) (hsx : SumsExt sm) (n : Nat) : RecOK P ng (ev P ng sm n) := by
  induction n with
  | zero => intro tk L e; cases e
  | succ n ih => exact stepA_ok hmix hng hs hsx ih (ev_ext hsx n)

end
end Go.Ev

/-! Summaries of calls: out of one run of the evaluator, good at every heap that begins alike. -/
namespace Go.Ev
open Go

/-- All blocks' numbers in a value lie below n. -/
def lowv (n : Nat) : Nat → Value → Bool
  | 0, _ => false
  | _ + 1, .bool _ => true
  | _ + 1, .int _ _ => true
  | _ + 1, .string _ => true
  | _ + 1, .pointer none => true
  | _ + 1, .pointer (some ⟨b, _, none⟩) => Nat.blt b n
  | _ + 1, .slice none _ _ => true
  | _ + 1, .slice (some ⟨b, _, none⟩) _ _ => Nat.blt b n
  | _ + 1, .map none => true
  | _ + 1, .map (some b) => Nat.blt b n
  | k + 1, .func (.func _) a c => a.toList.all (lowv n k) && c.toList.all (lowv n k)
  | _ + 1, .nilFunc => true
  | k + 1, .iface _ v => lowv n k v
  | _ + 1, .nilIface => true
  | k + 1, .agg a => a.toList.all (lowv n k)
  | k + 1, .tuple a => a.toList.all (lowv n k)
  | _ + 1, _ => false

theorem lowv_cut {n : Nat} {μ : Mu} : ∀ (k : Nat) (v v' : Value), lowv n k v = true → VR μ v v' → VR (μ.cut n) v v' := by
  intro k
  induction k with
  | zero => intro v v' h; simp [lowv] at h
  | succ k ih =>
    intro v v' h r
    have arr : ∀ {a a' : Array Value}, a.toList.all (lowv n k) = true → (∀ (i : Nat) x y, a[i]? = some x → a'[i]? = some y → VR μ x y) → ∀ (i : Nat) x y, a[i]? = some x → a'[i]? = some y → VR (μ.cut n) x y := by
      intro a a' hg hr i x y hx hy
      exact ih _ _ (List.all_eq_true.1 hg _ (by obtain ⟨hi, rfl⟩ := Array.getElem?_eq_some_iff.1 hx; simp)) (hr i x y hx hy)
    cases r with
    | bool | int | string | ptr0 | sl0 | map0 | nilFunc | nilIface => constructor
    | ptr a => exact .ptr (by rw [Mu.cut_lt (by simpa [lowv, Nat.blt_eq] using h)]; exact a)
    | sl a b => exact .sl (by rw [Mu.cut_lt (by simpa [lowv, Nat.blt_eq] using h)]; exact a) b
    | map a b => exact .map (by rw [Mu.cut_lt (by simpa [lowv, Nat.blt_eq] using h)]; exact a) b
    | func f h1 h2 h3 h4 =>
      cases f with
      | func f =>
        simp only [lowv, Bool.and_eq_true] at h
        exact .func (.func _) h1 (arr h.1 h2) h3 (arr h.2 h4)
      | _ => simp [lowv] at h
    | iface r => exact .iface (ih _ _ (by simpa only [lowv] using h) r)
    | agg s r => exact .agg s (arr (by simpa only [lowv] using h) r)
    | tuple s r => exact .tuple s (arr (by simpa only [lowv] using h) r)

/-- A block of a heap to start from: cells alone. -/
def lowO (n : Nat) : AObj → Bool
  | .dead => true
  | .cells c _ => c.all (lowv n 8)
  | _ => false

theorem lowO_cut {P : Program} {n : Nat} {μ : Mu} {x : Spot} {o : AObj} {o' : Obj} (h : lowO n o = true) (r : OR P μ x o o') : OR P (μ.cut n) x o o' := by
  cases r with
  | cells h1 h2 h3 =>
    refine .cells h1 h2 fun j v hv => ?_
    obtain ⟨y, hy, hr⟩ := h3 j v hv
    exact ⟨y, hy, lowv_cut 8 _ _ (List.all_eq_true.1 h _ (List.mem_of_getElem? hv)) hr⟩
  | _ => cases h

/-- All blocks below n: as 'p' wants. -/
def allB (p : Nat → Bool) : Nat → Bool
  | 0 => true
  | n + 1 => p n && allB p n
theorem allB_spec {p : Nat → Bool} : ∀ {n : Nat}, allB p n = true → ∀ b, b < n → p b = true
  | n + 1, h, b, hb => by
    simp only [allB, Bool.and_eq_true] at h
    rcases Nat.lt_succ_iff_lt_or_eq.1 hb with h1 | h1
    · exact allB_spec h.2 b h1
    · subst h1; exact h.1

def lowAt (h : Hp) (b : Nat) : Bool := match h.get b with
  | some o => lowO h.nx o
  | none => true
def lowH (h : Hp) : Bool := allB (lowAt h) h.nx

def oeq : AObj → AObj → Bool
  | .cells c t, .cells c' t' => Nat.beq t t' && leq (veq 8) c c'
  | _, _ => false

/-- The heap begins as the given one: where that says something. -/
def sameAt (ht h : Hp) (b : Nat) : Bool := match ht.get b with
  | some .dead => true
  | some o => match h.get b with
    | some o' => oeq o o'
    | none => false
  | none => true
def covers (ht h : Hp) : Bool := Nat.ble ht.nx h.nx && allB (sameAt ht h) ht.nx

theorem oeq_eq {a b : AObj} (h : oeq a b = true) : a = b := by
  unfold oeq at h
  split at h
  · simp only [Bool.and_eq_true] at h
    rw [Nat.eq_of_beq_eq_true h.1, leq_eq (fun a b h => veq_eq 8 a b h) _ _ h.2]
  · cases h

theorem covers_live {ht h : Hp} (c : covers ht h = true) {b : Nat} {o : AObj} (hb : ht.get b = some o) (hd : o.isDead = false) : h.get b = some o := by
  simp only [covers, Bool.and_eq_true] at c
  have := allB_spec c.2 b (Hp.get_lt hb)
  unfold sameAt at this
  rw [hb] at this
  split at this
  · rename_i e; cases e; cases hd
  · rename_i o1 _ e
    cases e
    split at this
    · rename_i o' ho'
      rw [ho', oeq_eq this]
    · cases this
  · rename_i e; cases e

section
variable {P : Program} {ng : Nat} {sm : Sums}

theorem call_prefix {f : FuncId} {args : List Value} {ht h : Hp} {v : Value} (hv : gr 7 v = true) (hng : ng ≤ ht.nx) (ha : args.all (lowv ht.nx 8) = true) (hl : lowH ht = true) (hc : covers ht h = true)
    (k : CallOK P ng f args false ht .run [.ret v ht .run]) : CallOK P ng f args false h .run [.ret v h .run] := by
  intro μ w args' cs u ho hargs _ _
  have hnx : ht.nx ≤ h.nx := by simp only [covers, Bool.and_eq_true, Nat.ble_eq] at hc; exact hc.1
  have live : ∀ b, ht.live b → h.live b := fun b ⟨o, hb, hd⟩ => ⟨o, covers_live hc hb hd, hd⟩
  have hor : ∀ b o l o', ht.get b = some o → o.isDead = false → OR P μ l o o' → OR P (μ.cut ht.nx) l o o' := by
    intro b o l o' hb hd hr
    have := allB_spec hl b (Hp.get_lt hb)
    unfold lowAt at this
    rw [hb] at this
    exact lowO_cut this hr
  have hokt : OKm P ng (μ.cut ht.nx) ht w := by
    refine ⟨⟨fun b o hb hd => ?_, fun b1 b2 l1 l2 h1 h2 e1 e2 he => ho.wr.inj b1 b2 l1 l2 (live _ h1) (live _ h2) (Mu.cut_some e1).2 (Mu.cut_some e2).2 he, Nat.le_trans hnx ho.wr.cap⟩, fun b hb => Mu.cut_ge hb, fun g hg => ?_, ho.pin.sub fun b l hb hm => ⟨b, l, live b hb, (Mu.cut_some hm).2, rfl⟩⟩
    · obtain ⟨l, o', k1, k2, k3⟩ := ho.wr.live b o (covers_live hc hb hd) hd
      exact ⟨l, o', by rw [Mu.cut_lt (Hp.get_lt hb)]; exact k1, k2, hor b o l o' hb hd k3⟩
    · rw [Mu.cut_lt (by omega)]; exact ho.gl g hg
  have hargt : LR (μ.cut ht.nx) args args' := ⟨hargs.1, fun i x y hx hy => lowv_cut 8 _ _ (List.all_eq_true.1 ha _ (List.mem_of_getElem? hx)) (hargs.2 i x y hx hy)⟩
  obtain ⟨r, μ1, w1, u1, e1, fr, hm, hd, hst, rest⟩ := k (μ.cut ht.nx) w args' cs u hokt hargt (by simp) (by simp)
  simp only [List.mem_singleton] at hm
  subst hm
  cases hd with
  | ret ho1 hf1 hvr _ =>
    have hkeep : ∀ b o l o', h.get b = some o → o.isDead = false → μ b = some l → w.heap[l.blk]? = some o' → ¬ ht.live b → w1.heap[l.blk]? = some o' := by
      intro b o l o' hb hd hm hw hn
      rw [hf1.keep l.blk (Array.getElem?_eq_some_iff.1 hw).1 ?_]
      · exact hw
      · rintro c lc hcl hcm he
        have := ho.wr.inj c b lc l (live c hcl) ⟨o, hb, hd⟩ (Mu.cut_some hcm).2 hm he
        subst this
        exact hn hcl
    have hwr : WR P μ h w1 := by
      refine ⟨fun b o hb hd => ?_, ho.wr.inj, ho.wr.cap⟩
      obtain ⟨l, o', k1, k2, k3⟩ := ho.wr.live b o hb hd
      by_cases hbl : ht.live b
      · obtain ⟨o2, hb2, hd2⟩ := hbl
        have := covers_live hc hb2 hd2
        rw [hb] at this; cases this
        obtain ⟨l1, o1, m1, m2, m3⟩ := ho1.wr.live b o hb2 hd2
        have hbt : b < ht.nx := Hp.get_lt hb2
        rw [hf1.out b (.inl hbt), Mu.cut_lt hbt, k1] at m1; cases m1
        exact ⟨l, o1, k1, m2, ((hor b o l o' hb2 hd2 k3).down hf1.le m3).mono (μ.cut_le _)⟩
      · exact ⟨l, o', k1, hkeep b o l o' hb hd k1 k2 hbl, k3⟩
    have hfr : Fr μ h w μ h w1 := ⟨Mu.le_refl _, fun _ _ => rfl, Nat.le_refl _, hf1.sz, fun r hr hn => hf1.keep r hr fun b l hb hm => hn b l (live b hb) (Mu.cut_some hm).2, fun b l hb hm _ => ⟨b, l, hb, hm, rfl⟩, Nat.le_refl _, fun _ _ _ _ _ => Iff.rfl, hf1.wk⟩
    have hv' := gr_eq 7 _ _ hv hvr
    subst hv'
    refine ⟨_, μ, w1, u1, _, fr, List.mem_singleton.2 rfl, .ret ⟨hwr, ho.fr, ho.gl, ho.pin.step hfr⟩ hfr (gr_refl 7 _ hv) (by simp), hst, rest⟩

/-- What one run of the evaluator must show. -/
def chk (ht : Hp) (v : Value) (o : Out) : Bool := match o with
  | some [.ret u h' _] => still ht u h' && veq 8 u v
  | _ => false

theorem call_of_ev (hmix : P.follows .mixedOrders = true) (hnm : ∀ (g : FuncId) (fn : Func), P.funcs[g]? = some fn → ¬ fn.name = "runtime.NumGoroutine") (hs : SumsOK P ng sm) (hsx : SumsExt sm) (n : Nat) {f : FuncId} {args : List Value} {ht : Hp} {v : Value}
    (e : chk ht v (ev P ng sm n (.call f args false (ht.setLw BIG) .run)) = true) : gr 7 v = true ∧ CallOK P ng f args false ht .run [.ret v ht .run] := by
  unfold chk at e
  split at e
  · rename_i u h' md hev
    simp only [Bool.and_eq_true] at e
    have huv := veq_eq _ _ _ e.2
    subst huv
    have hst := e.1
    have hgr : gr 7 u = true := by simp only [still, Bool.and_eq_true] at hst; exact hst.1
    refine ⟨hgr, ?_⟩
    have hc : CallOK P ng f args false (ht.setLw BIG) .run [.ret u h' md] := ev_ok hmix hnm hs hsx n _ _ hev
    intro μ w args' cs u0 ho ha h1 h2
    obtain ⟨r, μ1, w1, u1, e1, fr, hm, hd, rest⟩ := hc μ w args' cs u0 (ho.setLw _) ha h1 h2
    simp only [List.mem_singleton] at hm
    subst hm
    obtain ⟨μ2, hd2⟩ := gc1_ok ho hd
    have : gc1 ht (.ret u h' md) = .ret u ht md := by simp only [gc1, hst]
    rw [this] at hd2
    refine ⟨_, μ2, w1, u1, e1, fr, List.mem_singleton.2 rfl, ?_, rest⟩
    cases hd2 with
    | ret a b c d => exact .ret a b c (by simp)
  · cases e

end
end Go.Ev

/-! A list of summaries. -/
namespace Go.Ev
open Go

structure Sum1 where
  f : FuncId
  args : List Value
  ht : Hp
  v : Value

def smL (sm : Sums) : List Sum1 → Sums
  | [], f, args, h => sm f args h
  | e :: l, f, args, h => match Nat.beq e.f f with
    | true => match leq (veq 8) e.args args && covers e.ht h with
      | true => some [.ret e.v h .run]
      | false => smL sm l f args h
    | false => smL sm l f args h

structure Sum1OK (P : Program) (ng : Nat) (e : Sum1) : Prop where
  v : gr 7 e.v = true
  low : ng ≤ e.ht.nx
  args : e.args.all (lowv e.ht.nx 8) = true
  ht : lowH e.ht = true
  ok : CallOK P ng e.f e.args false e.ht .run [.ret e.v e.ht .run]

section
variable {P : Program} {ng : Nat}

theorem smL_ok {sm : Sums} (hs : SumsOK P ng sm) (l : List Sum1) : (∀ e ∈ l, Sum1OK P ng e) → SumsOK P ng (smL sm l) := by
  induction l with
  | nil => exact fun _ => hs
  | cons e l ih =>
    intro he f args h L hL
    unfold smL at hL
    split at hL
    · rename_i hf
      have hf := Nat.eq_of_beq_eq_true hf
      subst hf
      split at hL
      · rename_i hc
        cases hL
        simp only [Bool.and_eq_true] at hc
        have ha := leq_eq (fun a b h => veq_eq 8 a b h) _ _ hc.1
        subst ha
        have k := he e List.mem_cons_self
        exact call_prefix k.v k.low k.args k.ht hc.2 k.ok
      · exact ih (fun x hx => he x (List.mem_cons_of_mem _ hx)) _ _ _ _ hL
    · exact ih (fun x hx => he x (List.mem_cons_of_mem _ hx)) _ _ _ _ hL

theorem smL_ext {sm : Sums} (hs : SumsExt sm) (l : List Sum1) : SumsExt (smL sm l) := by
  induction l with
  | nil => exact hs
  | cons e l ih =>
    intro f args h L hL
    unfold smL at hL
    split at hL
    · split at hL
      · cases hL; intro r hr; simp only [List.mem_singleton] at hr; subst hr; exact .refl _
      · exact ih _ _ _ _ hL
    · exact ih _ _ _ _ hL

/-- All that the kernel has to see of one summary. -/
def sumChk (P : Program) (ng : Nat) (sm : Sums) (n : Nat) (e : Sum1) : Bool :=
  Nat.ble ng e.ht.nx && e.args.all (lowv e.ht.nx 8) && lowH e.ht && chk e.ht e.v (ev P ng sm n (.call e.f e.args false (e.ht.setLw BIG) .run))

theorem sum_ok (hmix : P.follows .mixedOrders = true) (hnm : ∀ (g : FuncId) (fn : Func), P.funcs[g]? = some fn → ¬ fn.name = "runtime.NumGoroutine") {sm : Sums} (hs : SumsOK P ng sm) (hsx : SumsExt sm) (n : Nat) {e : Sum1} (h : sumChk P ng sm n e = true) : Sum1OK P ng e := by
  simp only [sumChk, Bool.and_eq_true, Nat.ble_eq] at h
  obtain ⟨⟨⟨h1, h2⟩, h3⟩, h4⟩ := h
  obtain ⟨k1, k2⟩ := call_of_ev hmix hnm hs hsx n h4
  exact ⟨k1, h1, h2, h3, k2⟩

end
end Go.Ev

/-! Summaries of calls whose result has new blocks: good where the next block's number is the same. -/
namespace Go.Ev
open Go

def addNews : List AObj → Hp → Hp
  | [], h => h
  | o :: os, h => addNews os (h.new o)

/-- The news are as the list says (where it says something). -/
def newsOk (h' : Hp) : Nat → List AObj → Bool
  | _, [] => true
  | b, o :: os => (match o with
    | .dead => true
    | o => match h'.get b with
      | some o' => oeq o o'
      | none => false) && newsOk h' (b + 1) os

theorem newsOk_get {h' : Hp} : ∀ {l : List AObj} {b : Nat}, newsOk h' b l = true → ∀ (i : Nat) o, l[i]? = some o → o.isDead = false → h'.get (b + i) = some o
  | o :: os, b, h, 0, o', he, hd => by
    simp at he; subst he
    simp only [newsOk, Bool.and_eq_true] at h
    have h1 := h.1
    split at h1
    · cases hd
    · split at h1
      · rename_i o2 ho2; rw [Nat.add_zero, ho2, oeq_eq h1]
      · cases h1
  | o :: os, b, h, i + 1, o', he, hd => by
    simp only [newsOk, Bool.and_eq_true] at h
    have := newsOk_get h.2 i o' (by simpa using he) hd
    rw [show b + (i + 1) = b + 1 + i by omega]; exact this

theorem addNews_get : ∀ (l : List AObj) (h : Hp), h.nx + l.length ≤ 2 ^ HD → (addNews l h).nx = h.nx + l.length ∧ (addNews l h).lw = h.lw ∧
    ∀ b, (addNews l h).get b = if b < h.nx then h.get b else l[b - h.nx]?
  | [], h, _ => ⟨rfl, rfl, fun b => by
      by_cases hb : b < h.nx
      · rw [if_pos hb]; rfl
      · rw [if_neg hb]
        show h.get b = none
        cases hq : h.get b with
        | none => rfl
        | some x => exact absurd (Hp.get_lt hq) hb⟩
  | o :: os, h, hc => by
    simp only [List.length_cons] at hc
    have hr : h.room = true := by simp only [Hp.room, Nat.blt_eq]; omega
    have hn : (h.new o).nx = h.nx + 1 := rfl
    obtain ⟨a, b, c⟩ := addNews_get os (h.new o) (by rw [hn]; omega)
    refine ⟨by show (addNews os (h.new o)).nx = _; rw [a, hn]; simp; omega, b, fun x => ?_⟩
    show (addNews os (h.new o)).get x = _
    rw [c x, hn, Hp.get_new hr]
    by_cases h1 : x < h.nx
    · rw [if_pos (by omega), if_neg (by omega), if_pos h1]
    · rw [if_neg h1]
      by_cases h2 : h.nx = x
      · subst h2; rw [if_pos (by omega), if_pos rfl]; simp
      · rw [if_neg (by omega), show x - h.nx = (x - (h.nx + 1)) + 1 by omega]; simp

theorem addNews_ext : ∀ (l : List AObj) (h : Hp), h.nx + l.length ≤ 2 ^ HD → Ext h (addNews l h)
  | [], h, _ => .refl _
  | o :: os, h, hc => by
    simp only [List.length_cons] at hc
    have hr : h.room = true := by simp only [Hp.room, Nat.blt_eq]; omega
    exact (Ext.new hr).trans (addNews_ext os (h.new o) (by show h.nx + 1 + os.length ≤ _; omega))

structure Sum2 where
  f : FuncId
  args : List Value
  ht : Hp
  v : Value
  nw : List AObj

structure Sum2OK (P : Program) (ng : Nat) (e : Sum2) : Prop where
  cap : e.ht.nx + e.nw.length ≤ 2 ^ HD
  low : ng ≤ e.ht.nx
  ok : ∃ h' md, h'.nx = e.ht.nx + e.nw.length ∧ e.ht.nx ≤ h'.lw ∧ newsOk h' e.ht.nx e.nw = true ∧ CallOK P ng e.f e.args false (e.ht.setLw BIG) .run [.ret e.v h' md]

section
variable {P : Program} {ng : Nat}

theorem call_news {e : Sum2} {h : Hp} (k : Sum2OK P ng e) (hc : covers e.ht h = true) (hn : h.nx = e.ht.nx) : CallOK P ng e.f e.args false h .run [.ret e.v (addNews e.nw h) .run] := by
  obtain ⟨hcap, hng, h', md, hnx', hlw, hnews, k⟩ := k
  intro μ w args' cs u ho hargs _ _
  have live : ∀ b, e.ht.live b → h.live b := fun b ⟨o, hb, hd⟩ => ⟨o, covers_live hc hb hd, hd⟩
  have hokt : OKm P ng μ (e.ht.setLw BIG) w := by
    refine ⟨⟨fun b o hb hd => ho.wr.live b o (covers_live hc hb hd) hd, fun b1 b2 l1 l2 h1 h2 => ho.wr.inj b1 b2 l1 l2 (live _ h1) (live _ h2), by have := ho.wr.cap; rw [hn] at this; exact this⟩, fun b hb => ho.fr b (by rw [hn]; exact hb), ho.gl, ho.pin.sub fun b l hb hm => ⟨b, l, live b hb, hm, rfl⟩⟩
  obtain ⟨r, μ1, w1, u1, e1, fr, hm, hd, hst, rest⟩ := k μ w args' cs u hokt hargs (by simp) (by simp)
  simp only [List.mem_singleton] at hm
  subst hm
  obtain ⟨n1, n2, n3⟩ := addNews_get e.nw h (by rw [hn]; exact hcap)
  cases hd with
  | ret ho1 hf1 hvr _ =>
    have hnxN : (addNews e.nw h).nx = h'.nx := by rw [n1, hnx', hn]
    have hold : ∀ b o, b < e.ht.nx → o.isDead = false → (h'.get b = some o ↔ e.ht.get b = some o) := fun b o hb hd => hf1.old b hb (by omega) o hd
    -- a block that lives after it: of the call's own heap, or of the rest
    have side : ∀ b o, (addNews e.nw h).get b = some o → o.isDead = false → h'.get b = some o ∨ (b < h.nx ∧ h.get b = some o ∧ ¬ e.ht.live b) := by
      intro b o hb hd
      rw [n3 b] at hb
      by_cases hlt : b < h.nx
      · rw [if_pos hlt] at hb
        by_cases hl : e.ht.live b
        · obtain ⟨o2, hb2, hd2⟩ := hl
          have := covers_live hc hb2 hd2
          rw [hb] at this; cases this
          exact .inl ((hold b o (by omega) hd).2 hb2)
        · exact .inr ⟨hlt, hb, hl⟩
      · rw [if_neg hlt] at hb
        have := newsOk_get hnews (b - h.nx) o hb hd
        rw [← hn, show h.nx + (b - h.nx) = b by omega] at this
        exact .inl this
    have outμ : ∀ b, b < h.nx → μ1 b = μ b := fun b hb => hf1.out b (.inl (by rw [hn] at hb; exact hb))
    have apart : ∀ b1 b2 l1 l2 o1, b1 < h.nx → h.get b1 = some o1 → o1.isDead = false → ¬ e.ht.live b1 → h'.live b2 → μ b1 = some l1 → μ1 b2 = some l2 → l1.blk = l2.blk → False := by
      intro b1 b2 l1 l2 o1 hb1 hg hd hnl hl2 e1 e2 he
      obtain ⟨l, o', k1, k2, _⟩ := ho.wr.live b1 o1 hg hd
      rw [e1] at k1; cases k1
      have hsz := (Array.getElem?_eq_some_iff.1 k2).1
      obtain ⟨b0, l0, m1, m2, m3⟩ := hf1.img b2 l2 hl2 e2 (by rw [← he]; exact hsz)
      have := ho.wr.inj b0 b1 l0 l1 (live b0 m1) ⟨o1, hg, hd⟩ m2 e1 (by rw [m3, he])
      subst this
      exact hnl m1
    have hwr : WR P μ1 (addNews e.nw h) w1 := by
      refine ⟨fun b o hb hd => ?_, ?_, by rw [n1, hn]; exact hcap⟩
      · rcases side b o hb hd with h1 | ⟨hlt, hg, hnl⟩
        · exact ho1.wr.live b o h1 hd
        · obtain ⟨l, o', k1, k2, k3⟩ := ho.wr.live b o hg hd
          refine ⟨l, o', by rw [outμ b hlt]; exact k1, ?_, k3.mono hf1.le⟩
          rw [hf1.keep l.blk (Array.getElem?_eq_some_iff.1 k2).1 ?_]
          · exact k2
          · rintro c lc hcl hcm he
            have := ho.wr.inj c b lc l (live c hcl) ⟨o, hg, hd⟩ hcm k1 he
            subst this
            exact hnl hcl
      · rintro b1 b2 l1 l2 ⟨o1, h1, d1⟩ ⟨o2, h2, d2⟩ e1 e2 he
        rcases side b1 o1 h1 d1 with k1 | ⟨lt1, g1, nl1⟩
        · rcases side b2 o2 h2 d2 with k2 | ⟨lt2, g2, nl2⟩
          · exact ho1.wr.inj b1 b2 l1 l2 ⟨o1, k1, d1⟩ ⟨o2, k2, d2⟩ e1 e2 he
          · exact (apart b2 b1 l2 l1 o2 lt2 g2 d2 nl2 ⟨o1, k1, d1⟩ (by rw [← outμ b2 lt2]; exact e2) e1 he.symm).elim
        · rcases side b2 o2 h2 d2 with k2 | ⟨lt2, g2, nl2⟩
          · exact (apart b1 b2 l1 l2 o1 lt1 g1 d1 nl1 ⟨o2, k2, d2⟩ (by rw [← outμ b1 lt1]; exact e1) e2 he).elim
          · exact ho.wr.inj b1 b2 l1 l2 ⟨o1, g1, d1⟩ ⟨o2, g2, d2⟩ (by rw [← outμ b1 lt1]; exact e1) (by rw [← outμ b2 lt2]; exact e2) he
    have hfr : Fr μ h w μ1 (addNews e.nw h) w1 := by
      refine ⟨hf1.le, fun b hb => hf1.out b ?_, by rw [n1]; omega, hf1.sz, fun r hr hq => hf1.keep r hr fun b l hb hm => hq b l (live b hb) hm, ?_, by rw [n2]; exact Nat.le_refl _, fun b hb _ o _ => by rw [n3 b, if_pos hb], hf1.wk⟩
      · rcases hb with hb | hb
        · exact .inl (by rw [hn] at hb; exact hb)
        · exact .inr (by rw [← hnxN]; exact hb)
      · rintro b l ⟨o, hb, hd⟩ hm hs
        rcases side b o hb hd with h1 | ⟨hlt, hg, hnl⟩
        · obtain ⟨b0, l0, m1, m2, m3⟩ := hf1.img b l ⟨o, h1, hd⟩ hm hs
          exact ⟨b0, l0, live b0 m1, m2, m3⟩
        · exact ⟨b, l, ⟨o, hg, hd⟩, by rw [← outμ b hlt]; exact hm, rfl⟩
    exact ⟨_, μ1, w1, u1, _, fr, List.mem_singleton.2 rfl, .ret ⟨hwr, fun b hb => ho1.fr b (by rw [← hnxN]; exact hb), ho1.gl, ho.pin.step hfr⟩ hfr hvr (by simp), hst, rest⟩

/-- A list of such summaries ahead of others. -/
def smL2 (sm : Sums) : List Sum2 → Sums
  | [], f, args, h => sm f args h
  | e :: l, f, args, h => match Nat.beq e.f f with
    | true => match Nat.beq e.ht.nx h.nx with
      | true => match leq (veq 8) e.args args && covers e.ht h with
        | true => some [.ret e.v (addNews e.nw h) .run]
        | false => smL2 sm l f args h
      | false => smL2 sm l f args h
    | false => smL2 sm l f args h

theorem smL2_ok {sm : Sums} (hs : SumsOK P ng sm) (l : List Sum2) : (∀ e ∈ l, Sum2OK P ng e) → SumsOK P ng (smL2 sm l) := by
  induction l with
  | nil => exact fun _ => hs
  | cons e l ih =>
    intro he f args h L hL
    unfold smL2 at hL
    have next := fun hL => ih (fun x hx => he x (List.mem_cons_of_mem _ hx)) f args h L hL
    split at hL
    · rename_i hf
      have hf := Nat.eq_of_beq_eq_true hf
      subst hf
      split at hL
      · rename_i hn
        have hn := Nat.eq_of_beq_eq_true hn
        split at hL
        · rename_i hc
          cases hL
          simp only [Bool.and_eq_true] at hc
          have ha := leq_eq (fun a b h => veq_eq 8 a b h) _ _ hc.1
          subst ha
          exact call_news (he e List.mem_cons_self) hc.2 hn.symm
        · exact next hL
      · exact next hL
    · exact next hL

theorem smL2_ext {sm : Sums} (hs : SumsExt sm) (l : List Sum2) (hl : ∀ e ∈ l, e.ht.nx + e.nw.length ≤ 2 ^ HD) : SumsExt (smL2 sm l) := by
  induction l with
  | nil => exact hs
  | cons e l ih =>
    intro f args h L hL
    unfold smL2 at hL
    have next := fun hL => ih (fun x hx => hl x (List.mem_cons_of_mem _ hx)) f args h L hL
    split at hL
    · split at hL
      · rename_i hn
        have hn := Nat.eq_of_beq_eq_true hn
        split at hL
        · cases hL; intro r hr; simp only [List.mem_singleton] at hr; subst hr
          exact addNews_ext _ _ (by rw [← hn]; exact hl e List.mem_cons_self)
        · exact next hL
      · exact next hL
    · exact next hL

/-- What the kernel has to see. -/
def chk2 (ht : Hp) (v : Value) (nw : List AObj) (o : Out) : Bool := match o with
  | some [.ret u h' _] => veq 8 u v && Nat.ble ht.nx h'.lw && Nat.beq h'.nx (ht.nx + nw.length) && newsOk h' ht.nx nw
  | _ => false
def sumChk2 (P : Program) (ng : Nat) (sm : Sums) (n : Nat) (e : Sum2) : Bool :=
  Nat.ble ng e.ht.nx && Nat.ble (e.ht.nx + e.nw.length) (2 ^ HD) && chk2 e.ht e.v e.nw (ev P ng sm n (.call e.f e.args false (e.ht.setLw BIG) .run))

theorem sum2_ok (hmix : P.follows .mixedOrders = true) (hnm : ∀ (g : FuncId) (fn : Func), P.funcs[g]? = some fn → ¬ fn.name = "runtime.NumGoroutine") {sm : Sums} (hs : SumsOK P ng sm) (hsx : SumsExt sm) (n : Nat) {e : Sum2} (h : sumChk2 P ng sm n e = true) : Sum2OK P ng e := by
  simp only [sumChk2, Bool.and_eq_true, Nat.ble_eq] at h
  obtain ⟨⟨h1, h2⟩, h3⟩ := h
  unfold chk2 at h3
  split at h3
  · rename_i u h' md hev
    simp only [Bool.and_eq_true, Nat.ble_eq] at h3
    obtain ⟨⟨⟨a, b⟩, c⟩, d⟩ := h3
    have := veq_eq _ _ _ a
    subst this
    exact ⟨h2, h1, h', md, Nat.eq_of_beq_eq_true c, b, d, ev_ok hmix hnm hs hsx n _ _ hev⟩
  · cases h3

end
end Go.Ev
