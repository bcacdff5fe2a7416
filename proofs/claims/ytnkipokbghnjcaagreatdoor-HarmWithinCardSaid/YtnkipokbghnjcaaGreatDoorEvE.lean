/-
  What the evaluator does to its heap, whatever the outcome: it grows; what lies below the count of the written ones is unchanged. · The heap as a drawn operation sees it, and back; the growth of the heap through the whole evaluator. · Drawn regions, 1: relations cut at a block's number; the entries of a run and what the evaluator has checked of them. · Drawn regions, 2: what the entries of a run leave of the heap and of the frame, whichever of them have run. · Drawn regions, 3: the relation between a run's entries, some of them done, and the machine's state; one entry more. · Drawn regions, 4: an entry's turn at the machine.
-/
import Derived.Test.YtnkipokbghnjcaaGreatDoorEvD
/-! What the evaluator does to its heap, whatever the outcome: it grows; what lies below the count of the written ones is unchanged. -/
namespace Go.Ev
open Go

structure Ext (h h' : Hp) : Prop where
  nx : h.nx ≤ h'.nx
  cap : h.nx ≤ 2 ^ HD → h'.nx ≤ 2 ^ HD
  lw : h'.lw ≤ h.lw
  old : h.nx ≤ 2 ^ HD → ∀ b, b < h.nx → b < h'.lw → ∀ o, o.isDead = false → (h'.get b = some o ↔ h.get b = some o)

theorem Ext.refl (h : Hp) : Ext h h := ⟨Nat.le_refl _, id, Nat.le_refl _, fun _ _ _ _ _ _ => Iff.rfl⟩
theorem Ext.trans {a b c : Hp} (x : Ext a b) (y : Ext b c) : Ext a c :=
  ⟨Nat.le_trans x.nx y.nx, fun h => y.cap (x.cap h), Nat.le_trans y.lw x.lw, fun h n h1 h2 o ho => by
    have := x.nx; have := y.lw
    rw [y.old (x.cap h) n (by omega) h2 o ho, x.old h n h1 (by omega) o ho]⟩
theorem Ext.new {h : Hp} {o : AObj} (hr : h.room = true) : Ext h (h.new o) := by
  have hroom : h.nx < 2 ^ HD := by simpa [Hp.room, Nat.blt_eq] using hr
  exact ⟨Nat.le_succ _, fun _ => hroom, Nat.le_refl _, fun _ b hb _ o _ => by rw [Hp.get_new hr, if_neg (by omega)]⟩
theorem Ext.put {h : Hp} {b : Nat} {o x : AObj} (hb : h.get b = some x) : Ext h (h.put b o) :=
  ⟨Nat.le_refl _, id, (Hp.put_lw h b o).1, fun hc c _ h2 y _ => by
    have := (Hp.put_lw h b o).2
    rw [Hp.get_put (Hp.get_lt hb) hc, if_neg (by omega)]⟩

section
variable {P : Program}

theorem aNew_ext {h h' : Hp} {t : TypeId} {c : List Value} {v : Value} (e : aNew P h t c = some (v, h')) : Ext h h' := by
  unfold aNew at e
  split at e
  · cases e; exact .new ‹_›
  · cases e
theorem aAlloc_ext {h h' : Hp} {t : TypeId} {v : Value} (e : aAlloc P h t = some (v, h')) : Ext h h' := by
  unfold aAlloc at e
  split at e
  · split at e
    · exact aNew_ext e
    · cases e
  · cases e
theorem aBuildSlice_ext {h h' : Hp} {t : TypeId} {n : Nat} {ps : Array (Nat × Value)} {v : Value} (e : aBuildSlice P h t n ps = some (v, h')) : Ext h h' := by
  unfold aBuildSlice at e
  repeat' split at e
  all_goals first
    | (cases e; done)
    | (cases e; exact aNew_ext ‹_›)
theorem aStore_ext {h h' : Hp} {t : TypeId} {a v : Value} (e : aStore P h t a v = some h') : Ext h h' := by
  unfold aStore at e
  repeat' split at e
  all_goals first
    | (cases e; done)
    | (cases e; exact .put (Hp.row_get ‹_›))
theorem aPlace_ext {h h' : Hp} {size sLen n sCap : Nat} {base : Option Addr} {xs : List Value} {v : Value} (e : aPlace h size sLen n sCap base xs = some (v, h')) : Ext h h' := by
  unfold aPlace at e
  repeat' split at e
  all_goals first
    | (cases e; done)
    | (cases e; exact .refl _)
    | (cases e; exact .put (Hp.row_get ‹_›))
theorem aGrow_ext {h h' : Hp} {elem : TypeId} {size sLen n c : Nat} {exact : Bool} {base : Option Addr} {old xs : List Value} {v : Value} (hr : h.room = true) (e : aGrow h elem size sLen n c exact base old xs = some (v, h')) : Ext h h' := by
  unfold aGrow at e
  repeat' split at e
  all_goals first
    | (cases e; done)
    | (cases e; exact .new hr)
    | (cases e; exact (Ext.put (Hp.row_get ‹_›)).trans (.new hr))
theorem aAppend_ext {h h' : Hp} {sT xT : TypeId} {s x v : Value} (e : aAppend P h sT xT s x = some (v, h')) : Ext h h' := by
  unfold aAppend at e
  repeat' split at e
  all_goals first
    | (cases e; done)
    | exact aPlace_ext e
    | (refine aGrow_ext ?_ e; simp_all)
theorem aMakeSlice_ext {h h' : Hp} {t : TypeId} {l c v : Value} (e : aMakeSlice P h t l c = some (v, h')) : Ext h h' := by
  unfold aMakeSlice at e
  repeat' split at e
  all_goals first
    | (cases e; done)
    | (cases e; exact aNew_ext ‹_›)
theorem aMakeMap_ext {h h' : Hp} {v : Value} (e : aMakeMap h = some (v, h')) : Ext h h' := by
  unfold aMakeMap at e
  split at e
  · cases e; exact .new ‹_›
  · cases e
theorem aMapUpdate_ext {h h' : Hp} {t : TypeId} {m k v : Value} (e : aMapUpdate P h t m k v = some h') : Ext h h' := by
  unfold aMapUpdate at e
  repeat' split at e
  all_goals first
    | (cases e; done)
    | (cases e; exact .put (Hp.mapAt_get ‹_›))
theorem aMapEntry_ext {h h' : Hp} {t : TypeId} {m k v : Value} (e : aMapEntry P h t m k = some (v, h')) : Ext h h' := by
  unfold aMapEntry at e
  repeat' split at e
  all_goals first
    | (cases e; done)
    | (cases e; exact .put (Hp.mapAt_get ‹_›))
theorem aEntryStore_ext {h h' : Hp} {m k v : Value} (e : aEntryStore h m k v = some h') : Ext h h' := by
  unfold aEntryStore at e
  repeat' split at e
  all_goals first
    | (cases e; done)
    | (cases e; exact .put (Hp.mapAt_get ‹_›))
theorem aRange_ext {h h' : Hp} {t : TypeId} {x v : Value} (e : aRange P h t x = some (v, h')) : Ext h h' := by
  unfold aRange at e
  repeat' split at e
  all_goals first
    | (cases e; done)
    | (cases e; exact .new ‹_›)

theorem aNext_ext {h : Hp} {it : Value} {L : List (Value × Hp)} (e : aNext h it = some L) : ∀ p ∈ L, Ext h p.2 := by
  unfold aNext at e
  split at e
  · split at e
    · cases e; intro p hp; simp only [List.mem_singleton] at hp; subst hp; exact .refl _
    · rename_i hit
      split at e
      · split at e
        · cases e
        · cases e
          intro p hp
          obtain ⟨c, _, rfl⟩ := List.mem_map.1 hp
          cases c with
          | none => exact .refl _
          | some en => exact .put (Hp.iterAt_get hit)
      · cases e
    · cases e
  · cases e

theorem oneVal_ext {h : Hp} {o : Option (Value × Hp)} {L : List R1} (e : oneVal o = some L) (hx : ∀ v h', o = some (v, h') → Ext h h') : ∀ q ∈ L, Ext h q.heap := by
  obtain ⟨v, h', ho, rfl⟩ := oneVal_some e
  intro q hq
  simp only [List.mem_singleton] at hq
  subst hq
  exact hx v h' ho
theorem skipVal_ext {h : Hp} {o : Option Hp} {L : List R1} (e : skipVal o = some L) (hx : ∀ h', o = some h' → Ext h h') : ∀ q ∈ L, Ext h q.heap := by
  obtain ⟨h', ho, rfl⟩ := skipVal_some e
  intro q hq
  simp only [List.mem_singleton] at hq
  subst hq
  exact hx h' ho
theorem sameHeap_ext {h : Hp} {o : Option Value} {L : List R1} (e : sameHeap h o = some L) : ∀ q ∈ L, Ext h q.heap := by
  obtain ⟨v, ho, rfl⟩ := sameHeap_some e
  intro q hq
  simp only [List.mem_singleton] at hq
  subst hq
  exact .refl _
theorem one_ext {h : Hp} {r : R1} (hr : r.heap = h) : ∀ q ∈ [r], Ext h q.heap := by
  intro q hq
  simp only [List.mem_singleton] at hq
  subst hq
  rw [hr]; exact .refl _
theorem aFree_ext {ρ : Operand → Option Value} {h : Hp} {o : Oper} {L : List R1} (e : aFree P ρ h o = some L) : ∀ q ∈ L, Ext h q.heap := by
  unfold aFree at e
  repeat' split at e
  all_goals first
    | (cases e; done)
    | (cases e; exact one_ext rfl)
theorem aCallV_ext {h : Hp} {f : Value} {args : List Value} {L : List R1} (e : aCallV P h f args = some L) : ∀ q ∈ L, Ext h q.heap := by
  unfold aCallV at e
  repeat' split at e
  all_goals first
    | (cases e; done)
    | (cases e; exact one_ext rfl)
theorem aBuiltin_ext {ρ : Operand → Option Value} {h : Hp} {o : Oper} {b : Builtin} {args : Array Operand} {ts : Array TypeId} {L : List R1} (e : aBuiltin P ρ h o b args ts = some L) : ∀ q ∈ L, Ext h q.heap := by
  unfold aBuiltin at e
  repeat' split at e
  all_goals first
    | (cases e; done)
    | exact aFree_ext e
    | (cases e; exact one_ext rfl)
    | exact oneVal_ext e fun _ _ h => aAppend_ext h

theorem aop_ext {ρ : Operand → Option Value} {h : Hp} {o : Oper} {L : List R1} (e : aop P ρ h o = some L) : ∀ q ∈ L, Ext h q.heap := by
  unfold aop at e
  split at e
  all_goals first
    | (cases e; done)
    | exact sameHeap_ext e
    | exact aFree_ext e
    | exact oneVal_ext e fun _ _ h => aAlloc_ext h
    | exact oneVal_ext e fun _ _ h => aMakeMap_ext h
    | skip
  all_goals (repeat' split at e)
  all_goals first
    | (cases e; done)
    | exact sameHeap_ext e
    | exact aFree_ext e
    | exact aBuiltin_ext e
    | exact aCallV_ext e
    | exact oneVal_ext e fun _ _ h => aNew_ext h
    | exact oneVal_ext e fun _ _ h => aBuildSlice_ext h
    | exact oneVal_ext e fun _ _ h => aMakeSlice_ext h
    | exact oneVal_ext e fun _ _ h => aMapEntry_ext h
    | exact oneVal_ext e fun _ _ h => aRange_ext h
    | exact skipVal_ext e fun _ h => aStore_ext h
    | exact skipVal_ext e fun _ h => aMapUpdate_ext h
    | exact skipVal_ext e fun _ h => aEntryStore_ext h
    | (cases e; exact one_ext rfl)
    | (cases e; intro q hq; obtain ⟨p, hp, rfl⟩ := List.mem_map.1 hq; exact aNext_ext ‹_› p hp)
    | (cases e; intro q hq; simp only [List.mem_cons, List.not_mem_nil, or_false] at hq; rcases hq with rfl | rfl <;> exact .refl _)

end
end Go.Ev

/-! The heap as a drawn operation sees it, and back; the growth of the heap through the whole evaluator. -/
namespace Go.Ev
open Go

theorem killR_get : ∀ (n : Nat) (h : Hp) (lo : Nat), lo + n ≤ h.nx → h.nx ≤ 2 ^ HD → (killR h lo n).nx = h.nx ∧ ∀ b, (killR h lo n).get b = if lo ≤ b ∧ b < lo + n then some .dead else h.get b
  | 0, h, lo, _, _ => ⟨rfl, fun b => by rw [if_neg (by omega)]; rfl⟩
  | n + 1, h, lo, h1, h2 => by
    have hn : (h.put lo .dead).nx = h.nx := rfl
    obtain ⟨a, c⟩ := killR_get n (h.put lo .dead) (lo + 1) (by rw [hn]; omega) (by rw [hn]; exact h2)
    refine ⟨a, fun b => ?_⟩
    show (killR (h.put lo .dead) (lo + 1) n).get b = _
    rw [c b, Hp.get_put (by omega) h2]
    by_cases hb : lo = b
    · subst hb; rw [if_neg (by omega), if_pos rfl, if_pos (by omega)]
    · rw [if_neg hb]
      by_cases hc : lo + 1 ≤ b ∧ b < lo + 1 + n
      · rw [if_pos hc, if_pos (by omega)]
      · rw [if_neg hc, if_neg (by omega)]

theorem backR_get : ∀ (n : Nat) (h h' : Hp) (lo : Nat), lo + n ≤ h'.nx → h'.nx ≤ 2 ^ HD → (backR h lo n h').nx = h'.nx ∧ ∀ b, (backR h lo n h').get b = if lo ≤ b ∧ b < lo + n then some ((h.get b).getD .dead) else h'.get b
  | 0, h, h', lo, _, _ => ⟨rfl, fun b => by rw [if_neg (by omega)]; rfl⟩
  | n + 1, h, h', lo, h1, h2 => by
    have hn : (h'.put lo ((h.get lo).getD .dead)).nx = h'.nx := rfl
    obtain ⟨a, c⟩ := backR_get n h (h'.put lo ((h.get lo).getD .dead)) (lo + 1) (by rw [hn]; omega) (by rw [hn]; exact h2)
    refine ⟨a, fun b => ?_⟩
    show (backR h (lo + 1) n (h'.put lo ((h.get lo).getD .dead))).get b = _
    rw [c b, Hp.get_put (by omega) h2]
    by_cases hb : lo = b
    · subst hb; rw [if_neg (by omega), if_pos rfl, if_pos (by omega)]
    · rw [if_neg hb]
      by_cases hc : lo + 1 ≤ b ∧ b < lo + 1 + n
      · rw [if_pos hc, if_pos (by omega)]
      · rw [if_neg hc, if_neg (by omega)]

def Killed (mask : Nat) (np : List DNp) (b : Nat) : Prop := ∃ p ∈ np, Nat.testBit mask p.j = false ∧ p.lo ≤ b ∧ b < p.hi

theorem view_get (mask : Nat) : ∀ (np : List DNp) (h : Hp), (∀ p ∈ np, p.hi ≤ h.nx) → h.nx ≤ 2 ^ HD → (view mask np h).nx = h.nx ∧
    ∀ b, (Killed mask np b → (view mask np h).get b = some .dead) ∧ (¬ Killed mask np b → (view mask np h).get b = h.get b)
  | [], h, _, _ => ⟨rfl, fun b => ⟨fun ⟨p, hp, _⟩ => by simp at hp, fun _ => rfl⟩⟩
  | p :: ps, h, hh, hc => by
    unfold view
    split
    · rename_i ht
      obtain ⟨a, c⟩ := view_get mask ps h (fun q hq => hh q (List.mem_cons_of_mem _ hq)) hc
      refine ⟨a, fun b => ⟨fun ⟨q, hq, h1, h2⟩ => (c b).1 ?_, fun hn => (c b).2 fun ⟨q, hq, h1⟩ => hn ⟨q, List.mem_cons_of_mem _ hq, h1⟩⟩⟩
      rcases List.mem_cons.1 hq with rfl | hq
      · rw [ht] at h1; cases h1
      · exact ⟨q, hq, h1, h2⟩
    · rename_i ht
      have hp := hh p List.mem_cons_self
      by_cases hlo : p.lo ≤ p.hi
      · obtain ⟨a1, c1⟩ := killR_get (p.hi - p.lo) h p.lo (by omega) hc
        obtain ⟨a, c⟩ := view_get mask ps (killR h p.lo (p.hi - p.lo)) (fun q hq => by rw [a1]; exact hh q (List.mem_cons_of_mem _ hq)) (by rw [a1]; exact hc)
        refine ⟨a.trans a1, fun b => ⟨?_, ?_⟩⟩
        · rintro ⟨q, hq, h1, h2⟩
          by_cases hk : Killed mask ps b
          · exact (c b).1 hk
          · rw [(c b).2 hk, c1 b]
            rcases List.mem_cons.1 hq with rfl | hq
            · rw [if_pos (by omega)]
            · exact absurd ⟨q, hq, h1, h2⟩ hk
        · intro hn
          rw [(c b).2 fun ⟨q, hq, h1⟩ => hn ⟨q, List.mem_cons_of_mem _ hq, h1⟩, c1 b]
          rw [if_neg fun hb => hn ⟨p, List.mem_cons_self, ht, by omega, by omega⟩]
      · have h0 : p.hi - p.lo = 0 := by omega
        rw [h0]
        obtain ⟨a, c⟩ := view_get mask ps h (fun q hq => hh q (List.mem_cons_of_mem _ hq)) hc
        refine ⟨a, fun b => ⟨fun ⟨q, hq, h1, h2⟩ => (c b).1 ?_, fun hn => (c b).2 fun ⟨q, hq, h1⟩ => hn ⟨q, List.mem_cons_of_mem _ hq, h1⟩⟩⟩
        rcases List.mem_cons.1 hq with rfl | hq
        · omega
        · exact ⟨q, hq, h1, h2⟩

theorem backA_get (mask : Nat) (h : Hp) : ∀ (np : List DNp) (h' : Hp), (∀ p ∈ np, p.hi ≤ h'.nx) → h'.nx ≤ 2 ^ HD → (backA mask h np h').nx = h'.nx ∧
    ∀ b, (Killed mask np b → (backA mask h np h').get b = some ((h.get b).getD .dead)) ∧ (¬ Killed mask np b → (backA mask h np h').get b = h'.get b)
  | [], h', _, _ => ⟨rfl, fun b => ⟨fun ⟨p, hp, _⟩ => by simp at hp, fun _ => rfl⟩⟩
  | p :: ps, h', hh, hc => by
    unfold backA
    split
    · rename_i ht
      obtain ⟨a, c⟩ := backA_get mask h ps h' (fun q hq => hh q (List.mem_cons_of_mem _ hq)) hc
      refine ⟨a, fun b => ⟨fun ⟨q, hq, h1, h2⟩ => (c b).1 ?_, fun hn => (c b).2 fun ⟨q, hq, h1⟩ => hn ⟨q, List.mem_cons_of_mem _ hq, h1⟩⟩⟩
      rcases List.mem_cons.1 hq with rfl | hq
      · rw [ht] at h1; cases h1
      · exact ⟨q, hq, h1, h2⟩
    · rename_i ht
      have hp := hh p List.mem_cons_self
      by_cases hlo : p.lo ≤ p.hi
      · obtain ⟨a1, c1⟩ := backR_get (p.hi - p.lo) h h' p.lo (by omega) hc
        obtain ⟨a, c⟩ := backA_get mask h ps (backR h p.lo (p.hi - p.lo) h') (fun q hq => by rw [a1]; exact hh q (List.mem_cons_of_mem _ hq)) (by rw [a1]; exact hc)
        refine ⟨a.trans a1, fun b => ⟨?_, ?_⟩⟩
        · rintro ⟨q, hq, h1, h2⟩
          by_cases hk : Killed mask ps b
          · exact (c b).1 hk
          · rw [(c b).2 hk, c1 b]
            rcases List.mem_cons.1 hq with rfl | hq
            · rw [if_pos (by omega)]
            · exact absurd ⟨q, hq, h1, h2⟩ hk
        · intro hn
          rw [(c b).2 fun ⟨q, hq, h1⟩ => hn ⟨q, List.mem_cons_of_mem _ hq, h1⟩, c1 b]
          rw [if_neg fun hb => hn ⟨p, List.mem_cons_self, ht, by omega, by omega⟩]
      · have h0 : p.hi - p.lo = 0 := by omega
        rw [h0]
        obtain ⟨a, c⟩ := backA_get mask h ps h' (fun q hq => hh q (List.mem_cons_of_mem _ hq)) hc
        refine ⟨a, fun b => ⟨fun ⟨q, hq, h1, h2⟩ => (c b).1 ?_, fun hn => (c b).2 fun ⟨q, hq, h1⟩ => hn ⟨q, List.mem_cons_of_mem _ hq, h1⟩⟩⟩
        rcases List.mem_cons.1 hq with rfl | hq
        · omega
        · exact ⟨q, hq, h1, h2⟩

theorem minN_le (a b : Nat) : minN a b ≤ a ∧ minN a b ≤ b := by
  unfold minN
  cases q : Nat.blt a b with
  | true => rw [Nat.blt_eq] at q; simp only; omega
  | false =>
    have : ¬ a < b := fun hl => by rw [← Nat.blt_eq] at hl; rw [hl] at q; cases q
    simp only; omega

theorem Ext.setLw {h h' : Hp} {n : Nat} (e : Ext (h.setLw n) h') : Ext h (h'.setLw (minN h.lw h'.lw)) :=
  ⟨e.nx, e.cap, (minN_le _ _).1, fun hc b h1 h2 => e.old hc b h1 (Nat.lt_of_lt_of_le h2 (minN_le _ _).2)⟩

/-! ### The whole evaluator -/
def Res.heap : Res → Hp
  | .out _ s => s.hp
  | .ret _ h _ | .pan _ h _ => h
def Tk.heap : Tk → Hp
  | .code _ _ s | .loop _ _ s => s.hp
  | .call _ _ _ h _ | .round _ _ _ _ _ _ h => h
def OutExt (h : Hp) (o : Out) : Prop := ∀ L, o = some L → ∀ r ∈ L, Ext h r.heap
def RecExt (rec : Tk → Out) : Prop := ∀ tk, OutExt tk.heap (rec tk)
def SumsExt (sm : Sums) : Prop := ∀ f args h, OutExt h (sm f args h)

theorem OutExt.none {h : Hp} : OutExt h Option.none := fun _ e => by cases e
theorem OutExt.one {h : Hp} {r : Res} (e : Ext h r.heap) : OutExt h (some [r]) := fun L he q hq => by
  cases he; simp only [List.mem_singleton] at hq; subst hq; exact e

theorem bindR_ext {α : Type} {f : α → Out} {h : Hp} : ∀ {L : List α}, (∀ x ∈ L, OutExt h (f x)) → OutExt h (bindR f L)
  | [], _ => fun M e r hr => by cases e; simp at hr
  | [x], hx => hx x (List.mem_singleton.2 rfl)
  | x :: y :: zs, hx => by
    unfold bindR
    simp only
    split
    · rename_i l hl
      split
      · rename_i m hm
        intro M e r hr
        cases e
        rcases List.mem_append.1 hr with hr | hr
        · exact hx x List.mem_cons_self l hl r hr
        · exact bindR_ext (L := y :: zs) (fun z hz => hx z (List.mem_cons_of_mem _ hz)) m hm r hr
      · exact .none
    · exact .none

theorem bindO_ext {o : Out} {f : Res → Out} {h : Hp} (ho : OutExt h o) (hf : ∀ r, Ext h r.heap → OutExt h (f r)) : OutExt h (bindO o f) := by
  unfold bindO
  split
  · rename_i L
    exact bindR_ext fun r hr => hf r (ho L rfl r hr)
  · exact .none

section
variable {P : Program} {ng : Nat} {sm : Sums} {rec : Tk → Out}

theorem OutExt.trans {h h1 : Hp} {o : Out} (e : Ext h h1) (k : OutExt h1 o) : OutExt h o := fun L he r hr => e.trans (k L he r hr)

theorem gc1_ext {h : Hp} {r : Res} (e : Ext (h.setLw BIG) r.heap) : Ext h (gc1 h r).heap := by
  cases r with
  | out x s => exact e.setLw
  | ret v h' md =>
    simp only [gc1]
    split
    · exact .refl _
    · exact e.setLw
  | pan ch h' md => exact e.setLw

theorem dedup_sub {h : Hp} : ∀ {L : List Res} {r : Res}, r ∈ dedup h L → r ∈ L
  | x :: xs, r, hr => by
    unfold dedup at hr
    split at hr
    · exact List.mem_cons_of_mem _ (dedup_sub hr)
    · rcases List.mem_cons.1 hr with rfl | hr
      · exact List.mem_cons_self
      · exact List.mem_cons_of_mem _ (dedup_sub hr)

theorem doCall_ext (hs : SumsExt sm) (hr : RecExt rec) (f : FuncId) (args : List Value) (h : Hp) : OutExt h (doCall sm rec f args h) := by
  unfold doCall
  split
  · rename_i L hL
    exact fun M e r hr => hs f args h M (by rw [hL]; exact e) r hr
  · split
    · rename_i L hL
      intro M e r hm
      cases e
      obtain ⟨q, hq, rfl⟩ := List.mem_map.1 hm
      exact gc1_ext (hr (.call f args false (h.setLw BIG) .run) L hL q (dedup_sub hq))
    · exact .none

theorem putR_ext {h : Hp} {s : St} {d : Option Tmp} {v : Value} (e : Ext h s.hp) : OutExt h (putR s d v) := by
  unfold putR
  split
  · rename_i s' hp
    exact .one (by show Ext h s'.hp; rw [(putO_ok hp).1]; exact e)
  · exact .none

theorem afterCall_ext {h : Hp} {s : St} {d : Option Tmp} {r : Res} (e : Ext h r.heap) : OutExt h (afterCall s d r) := by
  cases r with
  | out x s => exact .none
  | ret v h' md => exact putR_ext (s := { s with hp := h' }) e
  | pan ch h' md => exact .one e

theorem afterRound_ext {h : Hp} {s : St} {d : Option Tmp} {r : Res} (e : Ext h r.heap) : OutExt h (afterRound s d r) := by
  cases r with
  | ret v h' md => exact putR_ext (s := { s with hp := h' }) e
  | _ => exact .none

theorem recoverA_ext {h : Hp} {k : Kd} {s : St} {d : Option Tmp} (e : Ext h s.hp) : OutExt h (recoverA k s d) := by
  unfold recoverA
  repeat' split
  all_goals first
    | exact .none
    | exact putR_ext e
    | exact putR_ext (s := { s with md := _ }) e

theorem after1_ext (hs : SumsExt sm) (hr : RecExt rec) {h : Hp} {k : Kd} {s : St} {d : Option Tmp} {q : R1} (e : Ext h q.heap) : OutExt h (after1 sm rec k s d q) := by
  cases q with
  | val v h' => exact putR_ext (s := { s with hp := h' }) e
  | pan v h' => exact .one e
  | ent f args h' => exact bindO_ext ((doCall_ext hs hr f args h').trans e) fun r hr => afterCall_ext hr
  | rnd l fn tm ntm as bd h' => exact bindO_ext ((hr (.round l fn tm ntm as bd h')).trans e) fun r hr => afterRound_ext hr
  | dfr df h' =>
    simp only [after1]
    split
    · exact putR_ext (s := { s with hp := h', df := df :: s.df }) e
    · exact .none
  | rcv h' => exact recoverA_ext (s := { s with hp := h' }) e

theorem stepOp_ext (hs : SumsExt sm) (hr : RecExt rec) {k : Kd} {ops : Array Oper} {o : Oper} {s : St} : OutExt s.hp (stepOp P ng sm rec k ops o s) := by
  unfold stepOp
  split
  · exact putR_ext (.refl _)
  · split
    · rename_i L hL
      exact bindR_ext fun q hq => after1_ext hs hr (aop_ext hL q hq)
    · exact .none
  · exact .none

theorem runOps_ext (hs : SumsExt sm) (hr : RecExt rec) {k : Kd} {ops : Array Oper} : ∀ {os : List Oper} {s : St}, OutExt s.hp (runOps P ng sm rec k ops os s)
  | [], s => .one (.refl _)
  | o :: os, s => by
    unfold runOps
    refine bindO_ext (stepOp_ext hs hr) fun r e => ?_
    split
    · exact (runOps_ext hs hr).trans e
    · exact .one e
    · exact .none

/-! ### Drawn regions -/
def ValsExt (h : Hp) (o : Option (List (Value × Hp))) : Prop := ∀ L, o = some L → ∀ p ∈ L, Ext h p.2

theorem valRes_ext {h : Hp} : ∀ {L : List Res}, (∀ r ∈ L, Ext h r.heap) → ValsExt h (valRes L)
  | [], _ => fun M e p hp => by cases e; simp at hp
  | .ret v h' md :: rs, hx => by
    unfold valRes
    split
    · rename_i l hl
      intro M e p hp
      cases e
      rcases List.mem_cons.1 hp with rfl | hp
      · exact hx _ List.mem_cons_self
      · exact valRes_ext (fun r hr => hx r (List.mem_cons_of_mem _ hr)) l hl p hp
    · intro M e; cases e
  | .pan .. :: _, _ => fun M e => by cases e
  | .out .. :: _, _ => fun M e => by cases e

theorem valOne_ext (hs : SumsExt sm) (hr : RecExt rec) {h : Hp} {q : R1} (e : Ext h q.heap) : ValsExt h (valOne sm rec q) := by
  cases q with
  | val v h' => intro M he p hp; cases he; simp only [List.mem_singleton] at hp; subst hp; exact e
  | ent f args h' =>
    simp only [valOne]
    split
    · rename_i L hL
      exact valRes_ext fun r hr' => e.trans (doCall_ext hs hr f args h' L hL r hr')
    · intro M he; cases he
  | rnd l fn tm ntm as bd h' =>
    simp only [valOne]
    split
    · rename_i L hL
      exact valRes_ext fun r hr' => e.trans (hr (.round l fn tm ntm as bd h') L hL r hr')
    · intro M he; cases he
  | _ => intro M he; cases he

theorem valAll_ext (hs : SumsExt sm) (hr : RecExt rec) {h : Hp} : ∀ {L : List R1}, (∀ q ∈ L, Ext h q.heap) → ValsExt h (valAll sm rec L)
  | [], _ => fun M e p hp => by cases e; simp at hp
  | q :: qs, hx => by
    unfold valAll
    split
    · rename_i a b ha hb
      intro M e p hp
      cases e
      rcases List.mem_append.1 hp with hp | hp
      · exact valOne_ext hs hr (hx q List.mem_cons_self) a ha p hp
      · exact valAll_ext hs hr (fun z hz => hx z (List.mem_cons_of_mem _ hz)) b hb p hp
    · intro M e; cases e

theorem valOp_ext (hs : SumsExt sm) (hr : RecExt rec) {ρ : Operand → Option Value} {o : Oper} {h : Hp} : ValsExt h (valOp P sm rec ρ o h) := by
  unfold valOp
  split
  · rename_i L hL
    exact valAll_ext hs hr (aop_ext hL)
  · intro M e; cases e

theorem seen_not {mask : Nat} {np : List DNp} (h : allSeen mask np = true) (b : Nat) : ¬ Killed mask np b := by
  rintro ⟨p, hp, h1, _⟩
  rw [List.all_eq_true.1 h p hp] at h1; cases h1

theorem view_seen {mask : Nat} : ∀ {np : List DNp} {h : Hp}, allSeen mask np = true → view mask np h = h
  | [], _, _ => rfl
  | p :: ps, h, hs => by
    simp only [allSeen, List.all_cons, Bool.and_eq_true] at hs
    unfold view
    rw [hs.1]
    exact view_seen hs.2

/-- What an operation at the heap leaves, told plainly. -/
structure HeapOne (mask : Nat) (np : List DNp) (h h' h2 : Hp) (lo : Nat) : Prop where
  nx : h2.nx = h'.nx
  lw : h2.lw = minN h.lw h'.lw
  lo : lo = minN h.nx h'.lw
  dead : ∀ b, Killed mask np b → h2.get b = some ((h.get b).getD .dead)
  else_ : ∀ b, ¬ Killed mask np b → h2.get b = h'.get b

theorem heapOne_spec {seen : Bool} {mask nx0 : Nat} {np : List DNp} {h : Hp} {p : Value × Hp} {v : Value} {h2 : Hp} {lo : Nat} (hsn : seen = allSeen mask np) (hh : ∀ p ∈ np, p.hi ≤ h.nx) (hn : h.nx ≤ p.2.nx) (hc : p.2.nx ≤ 2 ^ HD)
    (e : heapOne seen mask nx0 np h p = some (v, h2, lo)) : v = p.1 ∧ HeapOne mask np h p.2 h2 lo ∧ (seen = true ∨ h.nx ≤ p.2.lw ∨ (nx0 ≤ p.2.lw ∧ ∀ r ∈ np, apart2 np mask p.2.lw r = true)) := by
  unfold heapOne at e
  split at e
  · cases e
    exact ⟨rfl, ⟨rfl, rfl, rfl, fun b hk => absurd hk (seen_not hsn.symm b), fun b _ => rfl⟩, .inl rfl⟩
  · split at e
    · rename_i hcond
      cases e
      obtain ⟨a, c⟩ := backA_get mask h np p.2 (fun q hq => Nat.le_trans (hh q hq) hn) hc
      refine ⟨rfl, ⟨a, rfl, rfl, fun b hk => (c b).1 hk, fun b hk => (c b).2 hk⟩, .inr ?_⟩
      simp only [Bool.or_eq_true, Bool.and_eq_true, Nat.ble_eq] at hcond
      rcases hcond with h1 | ⟨h1, h2⟩
      · exact .inl h1
      · exact .inr ⟨h1, List.all_eq_true.1 h2⟩
    · cases e

end
end Go.Ev

/-! Drawn regions, 1: relations cut at a block's number; the entries of a run and what the evaluator has checked of them. -/
namespace Go.Ev
open Go

/-! ### The relation below a number -/
def Mu.cut (μ : Mu) (n : Nat) : Mu := fun b => if b < n then μ b else none
theorem Mu.cut_le (μ : Mu) (n : Nat) : (μ.cut n).le μ := fun b l h => by
  unfold Mu.cut at h
  split at h
  · exact h
  · cases h
theorem Mu.cut_lt {μ : Mu} {n b : Nat} (h : b < n) : μ.cut n b = μ b := by simp [Mu.cut, h]
theorem Mu.cut_ge {μ : Mu} {n b : Nat} (h : n ≤ b) : μ.cut n b = none := by simp [Mu.cut]; omega
theorem Mu.cut_some {μ : Mu} {n b : Nat} {l : Spot} (h : μ.cut n b = some l) : b < n ∧ μ b = some l := by
  unfold Mu.cut at h
  split at h
  · exact ⟨‹_›, h⟩
  · cases h

def Low (μ : Mu) (n : Nat) : Prop := ∀ b, n ≤ b → μ b = none
theorem Low.some {μ : Mu} {n b : Nat} {l : Spot} (h : Low μ n) (e : μ b = some l) : b < n := by
  rcases Nat.lt_or_ge b n with h1 | h1
  · exact h1
  · rw [h b h1] at e; cases e
theorem Low.mono {μ : Mu} {n m : Nat} (h : Low μ n) (l : n ≤ m) : Low μ m := fun b hb => h b (Nat.le_trans l hb)
theorem low_cut (μ : Mu) (n : Nat) : Low (μ.cut n) n := fun _ h => Mu.cut_ge h

def WFv (n : Nat) (v : Value) : Prop := ∃ μ v', Low μ n ∧ VR μ v v'
theorem WFv.mono {n m : Nat} {v : Value} (h : WFv n v) (l : n ≤ m) : WFv m v := by
  obtain ⟨μ, v', a, b⟩ := h; exact ⟨μ, v', a.mono l, b⟩

theorem VR.cut' {μ1 : Mu} {n : Nat} (lo : Low μ1 n) {v v1 : Value} (h : VR μ1 v v1) : ∀ {μ : Mu} {v' : Value}, VR μ v v' → VR (μ.cut n) v v' := by
  have F : ∀ {μ : Mu} {f f1 f' : Fn}, FnR μ1 f f1 → FnR μ f f' → FnR (μ.cut n) f f' := by
    intro μ f f1 f' h k
    cases h with
    | yield h1 h2 =>
      cases k with
      | yield k1 k2 => exact .yield (by rw [Mu.cut_lt (lo.some h1)]; exact k1) k2
    | func => cases k; exact .func _
    | method => cases k; exact .method _
    | methodOf => cases k; exact .methodOf _ _
    | via => cases k; exact .via _ _ _ _
  have A : ∀ {μ : Mu} {a a1 a' : Array Value}, a.size = a1.size → (∀ (i : Nat) x y, a[i]? = some x → a1[i]? = some y → ∀ {μ : Mu} {v' : Value}, VR μ x v' → VR (μ.cut n) x v') →
      (∀ (i : Nat) x y, a[i]? = some x → a'[i]? = some y → VR μ x y) → ∀ (i : Nat) x y, a[i]? = some x → a'[i]? = some y → VR (μ.cut n) x y := by
    intro μ a a1 a' hs ih k i x y hx hy
    have hi : i < a1.size := by have := (Array.getElem?_eq_some_iff.1 hx).1; omega
    exact ih i x a1[i] hx (Array.getElem?_eq_getElem hi) (k i x y hx hy)
  induction h with
  | bool | int | string | ptr0 | sl0 | map0 | nilFunc | nilIface => intro μ v' k; cases k; constructor
  | ptr h1 => intro μ v' k; cases k with | ptr k1 => exact .ptr (by rw [Mu.cut_lt (lo.some h1)]; exact k1)
  | sl h1 c1 => intro μ v' k; cases k with | sl k1 c2 => exact .sl (by rw [Mu.cut_lt (lo.some h1)]; exact k1) c2
  | map h1 h2 => intro μ v' k; cases k with | map k1 k2 => exact .map (by rw [Mu.cut_lt (lo.some h1)]; exact k1) k2
  | func f s1 _ s2 _ ih1 ih2 => intro μ v' k; cases k with | func f' s1' h1' s2' h2' => exact .func (F f f') s1' (A s1 ih1 h1') s2' (A s2 ih2 h2')
  | iface _ ih => intro μ v' k; cases k with | iface k => exact .iface (ih k)
  | agg s _ ih => intro μ v' k; cases k with | agg s' h' => exact .agg s' (A s ih h')
  | tuple s _ ih => intro μ v' k; cases k with | tuple s' h' => exact .tuple s' (A s ih h')

theorem VR.cut {n m : Nat} {μ : Mu} {v v' : Value} (w : WFv m v) (l : m ≤ n) (h : VR μ v v') : VR (μ.cut n) v v' := by
  obtain ⟨μ1, v1, a, b⟩ := w; exact b.cut' (a.mono l) h

section
variable (P : Program)
def WFo (n : Nat) (o : AObj) : Prop := ∃ μ l o', Low μ n ∧ OR P μ l o o'
end
section
variable {P : Program}
theorem WFo.mono {n m : Nat} {o : AObj} (h : WFo P n o) (l : n ≤ m) : WFo P m o := by
  obtain ⟨μ, x, o', a, b⟩ := h; exact ⟨μ, x, o', a.mono l, b⟩

theorem OR.cut {n m : Nat} {μ : Mu} {x : Spot} {o : AObj} {o' : Obj} (w : WFo P m o) (l : m ≤ n) (h : OR P μ x o o') : OR P (μ.cut n) x o o' := by
  obtain ⟨μ1, x1, o1, lo, k⟩ := w
  have lo := lo.mono l
  have Ar : ∀ {a a1 a' : Array Value}, AllR μ1 a a1 → AllR μ a a' → AllR (μ.cut n) a a' := by
    intro a a1 a' h k
    refine ⟨k.1, fun i x y hx hy => ?_⟩
    obtain ⟨z, _, hz⟩ := h.have hx
    exact hz.cut' lo (k.2 i x y hx hy)
  have Tg : ∀ {t t1 t' : Target}, TgR μ1 t t1 → TgR μ t t' → TgR (μ.cut n) t t' := by
    intro t t1 t' h k
    cases t <;> cases t1 <;> cases t' <;> simp only [TgR] at h k ⊢ <;> first
      | exact k
      | exact h.elim
      | exact k.elim
      | skip
    · refine ⟨?_, Ar h.2 k.2⟩
      have hf := h.1; have kf := k.1
      have : VR μ1 (.func _ #[] #[]) (.func _ #[] #[]) := .func hf rfl (fun i x y hx _ => by simp at hx) rfl (fun i x y hx _ => by simp at hx)
      have k2 : VR μ (.func _ #[] #[]) (.func _ #[] #[]) := .func kf rfl (fun i x y hx _ => by simp at hx) rfl (fun i x y hx _ => by simp at hx)
      have := this.cut' lo k2
      cases this with | func f _ _ _ _ => exact f
    · obtain ⟨y, p, _, _⟩ := h
      obtain ⟨z, p2, q2, r2⟩ := k
      exact ⟨z, by rw [Mu.cut_lt (lo.some p)]; exact p2, q2, r2⟩
  cases h with
  | cells h1 h2 h3 =>
    cases k with
    | cells k1 k2 k3 =>
      refine .cells h1 h2 fun j v hv => ?_
      obtain ⟨y, hy, hr⟩ := h3 j v hv
      obtain ⟨z, _, kr⟩ := k3 j v hv
      exact ⟨y, hy, kr.cut' lo hr⟩
  | map h1 h2 =>
    cases k with
    | map k1 k2 =>
      refine .map h1 ⟨h2.1, fun i e e' he he' => ?_⟩
      have hh := h2.2 i e e' he he'
      have hi : ∀ (a : List MapEntry), EnsR μ1 _ a → i < a.length := fun a ha => by rw [← ha.1]; exact (List.getElem?_eq_some_iff.1 he).1
      have kk := k2.2 i e _ he (List.getElem?_eq_getElem (hi _ k2))
      exact ⟨kk.1.cut' lo hh.1, kk.2.1.cut' lo hh.2.1, hh.2.2⟩
  | iter0 h1 => exact .iter0 h1
  | iter h1 h2 h3 => cases k with | iter k1 k2 k3 => exact .iter h1 (by rw [Mu.cut_lt (lo.some k2)]; exact h2) h3
  | loop h1 h2 h3 h4 =>
    cases k with
    | loop k1 k2 k3 k4 =>
      refine .loop h1 ⟨h2.1, h2.2.1, fun i v hi hv => ?_⟩ (by rw [Mu.cut_lt (lo.some k3)]; exact h3) h4
      obtain ⟨y, hy, hr⟩ := h2.2.2 i v hi hv
      obtain ⟨z, _, kr⟩ := k2.2.2 i v hi hv
      exact ⟨y, hy, kr.cut' lo hr⟩
  | defs0 h1 => exact .defs0 h1
  | defs h1 h2 =>
    cases k with
    | defs k1 k2 =>
      refine .defs h1 ⟨h2.1, fun i d d' hd hd' => ?_⟩
      have hh := h2.2 i d d' hd hd'
      have hi : ∀ (a : List Deferred), DfsR μ1 _ a → i < a.length := fun a ha => by rw [← ha.1]; exact (List.getElem?_eq_some_iff.1 hd).1
      have kk := k2.2 i d _ hd (List.getElem?_eq_getElem (hi _ k2))
      exact ⟨Tg kk.1 hh.1, Ar kk.2 hh.2⟩

/-! ### The entries of a run -/
structure Ent where
  i : Nat
  o : Oper
  mask : Nat
  lk : Nat
  v : Value
  pre : St
  post : St
  hv : Option (Hp × Hp × Nat)
  one : Bool

def toNp (e : Ent) : Option DNp :=
  match e.hv with
  | some (_, _, lo) => some { j := e.i, mask := e.mask, lo, hi := e.post.hp.nx }
  | none => none
def nps (t : List Ent) : List DNp := t.filterMap toNp
def cur (s0 : St) : List Ent → St
  | [] => s0
  | e :: _ => e.post

def Closed (ops : Array Oper) (D : Nat → Prop) : Prop := ∀ i o, D i → ops[i]? = some o → ∀ x ∈ o.after, Region.binds .any x = true → D x.on
def Ready (D : Nat → Prop) (o : Oper) : Prop := ∀ x ∈ o.after, Region.binds .any x = true → D x.on

section
variable (ng : Nat) (sm : Sums) (rec : Tk → Out) (ops : Array Oper) (s0 : St)

def HowOK (e : Ent) (t : List Ent) : Prop :=
  match e.hv with
  | none => e.post.hp = e.pre.hp ∧ ((wantedA ops e.pre.tm e.o = some false ∧ e.v = undef) ∨ (wantedA ops e.pre.tm e.o = some true ∧ pureOp P (evalL ng e.lk e.pre.tm) e.o = some e.v))
  | some (V, V', lo) => wantedA ops e.pre.tm e.o = some true ∧ V = (view e.mask (nps t) e.pre.hp).setLw BIG ∧
      (∃ vals, valOp P sm rec (evalL ng e.lk e.pre.tm) e.o V = some vals ∧ (e.v, V') ∈ vals ∧ (e.one = true → vals = [(e.v, V')])) ∧ Ext V V' ∧
      HeapOne e.mask (nps t) e.pre.hp V' e.post.hp lo ∧
      (allSeen e.mask (nps t) = true ∨ e.pre.hp.nx ≤ V'.lw ∨ (s0.hp.nx ≤ V'.lw ∧ ∀ r ∈ nps t, apart2 (nps t) e.mask V'.lw r = true))

structure EntOK (e : Ent) (t : List Ent) : Prop where
  op : ops[e.i]? = some e.o
  new : ∀ r ∈ t, r.i ≠ e.i
  dep : ∀ D, Closed ops D → Ready D e.o → ∀ j, Nat.testBit e.mask j = true → D j
  on : ∀ x ∈ e.o.after, Region.binds .any x = true → ∃ r ∈ t, r.i = x.on
  ap1 : ∀ r ∈ t, ∀ a, r.o.dst = some a → e.o.dst ≠ some a
  ap2 : ∀ r ∈ t, Nat.testBit e.mask r.i = false → (∀ a, r.o.dst = some a → Nat.testBit e.lk a = false) ∧ (∀ c, e.o.dst = some c → Nat.testBit r.lk c = false)
  lk : e.lk = lkMask (e.o.looksAt ops)
  pre : e.pre = cur s0 t
  put : putO { e.pre with hp := e.post.hp } e.o.dst e.v = some e.post
  how : HowOK (P := P) ng sm rec ops s0 e t

inductive Tr : List Ent → Prop where
  | nil : Tr []
  | cons {e t} : Tr t → EntOK (P := P) ng sm rec ops s0 e t → Tr (e :: t)
end

def Touch (e : Ent) (t : List Ent) (b : Nat) : Prop := ∃ V V' lo, e.hv = some (V, V', lo) ∧ ¬ Killed e.mask (nps t) b ∧ lo ≤ b ∧ b < V'.nx

def LiveAt (h : Hp) (b : Nat) (o : AObj) : Prop := h.get b = some o ∧ o.isDead = false

/-- A block's content after the operations of D: and below which number all that it names lies. -/
def GL (D : Nat → Prop) (h0 : Hp) : List Ent → Nat → AObj → Nat → Prop
  | [], b, o, n => LiveAt h0 b o ∧ n = h0.nx
  | e :: t, b, o, n => (D e.i ∧ Touch e t b ∧ LiveAt e.post.hp b o ∧ n = e.post.hp.nx) ∨ (¬ (D e.i ∧ Touch e t b) ∧ GL D h0 t b o n)

def KL (D : Nat → Prop) (s0 : St) : List Ent → Nat → Value → Nat → Prop
  | [], x, v, n => T.get TD s0.tm x = some v ∧ n = s0.hp.nx
  | e :: t, x, v, n => (D e.i ∧ e.o.dst = some x ∧ v = e.v ∧ n = e.post.hp.nx) ∨ (¬ (D e.i ∧ e.o.dst = some x) ∧ KL D s0 t x v n)

theorem GL.fun {D : Nat → Prop} {h0 : Hp} : ∀ {t : List Ent} {b : Nat} {o o' : AObj} {n n' : Nat}, GL D h0 t b o n → GL D h0 t b o' n' → o = o' ∧ n = n'
  | [], _, _, _, _, _, h, k => ⟨by have := h.1.1.symm.trans k.1.1; cases this; rfl, h.2.trans k.2.symm⟩
  | e :: t, _, _, _, _, _, h, k => by
    rcases h with ⟨a, b, c, d⟩ | ⟨a, b⟩ <;> rcases k with ⟨a', b', c', d'⟩ | ⟨a', b'⟩
    · exact ⟨by have := c.1.symm.trans c'.1; cases this; rfl, d.trans d'.symm⟩
    · exact absurd ⟨a, b⟩ a'
    · exact absurd ⟨a', b'⟩ a
    · exact GL.fun b b'

end
end Go.Ev

/-! Drawn regions, 2: what the entries of a run leave of the heap and of the frame, whichever of them have run. -/
namespace Go.Ev
open Go

section
variable {P : Program} {ng : Nat} {sm : Sums} {rec : Tk → Out} {ops : Array Oper} {s0 : St}

structure Grown (s0 : St) (t : List Ent) : Prop where
  nx : s0.hp.nx ≤ (cur s0 t).hp.nx
  cap : (cur s0 t).hp.nx ≤ 2 ^ HD
  np : ∀ p ∈ nps t, p.hi ≤ (cur s0 t).hp.nx
  ntm : (cur s0 t).ntm = s0.ntm
  rest : (cur s0 t).df = s0.df ∧ (cur s0 t).md = s0.md

theorem putO_more {s s' : St} {d : Option Tmp} {v : Value} (e : putO s d v = some s') : s'.hp = s.hp ∧ s'.ntm = s.ntm ∧ s'.df = s.df ∧ s'.md = s.md ∧
    ((d = none ∧ s'.tm = s.tm) ∨ ∃ x, d = some x ∧ x < s.ntm ∧ s'.tm = T.set TD s.tm x v) := by
  unfold putO at e
  split at e
  · cases e; exact ⟨rfl, rfl, rfl, rfl, .inl ⟨rfl, rfl⟩⟩
  · split at e
    · rename_i hb; cases e; exact ⟨rfl, rfl, rfl, rfl, .inr ⟨_, rfl, by simpa [Nat.blt_eq] using hb, rfl⟩⟩
    · cases e

structure EntNx (e : Ent) (t : List Ent) : Prop where
  nx : e.pre.hp.nx ≤ e.post.hp.nx
  cap : e.post.hp.nx ≤ 2 ^ HD
  view : ∀ V V' lo, e.hv = some (V, V', lo) → V.nx = e.pre.hp.nx ∧ V'.nx = e.post.hp.nx ∧ lo ≤ e.pre.hp.nx ∧
    ∀ b, (Killed e.mask (nps t) b → V.get b = some .dead) ∧ (¬ Killed e.mask (nps t) b → V.get b = e.pre.hp.get b)

theorem ent_nx {e : Ent} {t : List Ent} (g : Grown s0 t) (k : EntOK (P := P) ng sm rec ops s0 e t) : EntNx e t := by
  have hpre := k.pre
  have hcap : e.pre.hp.nx ≤ 2 ^ HD := by rw [hpre]; exact g.cap
  have hnp : ∀ p ∈ nps t, p.hi ≤ e.pre.hp.nx := by rw [hpre]; exact g.np
  have hh := k.how
  unfold HowOK at hh
  split at hh
  · rename_i hv
    refine ⟨by rw [hh.1]; exact Nat.le_refl _, by rw [hh.1]; exact hcap, fun V V' lo h => by rw [hv] at h; cases h⟩
  · rename_i V V' lo hv
    obtain ⟨_, hV, _, hx, h1, _⟩ := hh
    obtain ⟨a, c⟩ := view_get e.mask (nps t) e.pre.hp hnp hcap
    have hVn : V.nx = e.pre.hp.nx := by rw [hV]; exact a
    refine ⟨by rw [h1.nx, ← hVn]; exact hx.nx, by rw [h1.nx]; exact hx.cap (by rw [hVn]; exact hcap), fun V1 V1' lo1 h => ?_⟩
    rw [hv] at h; cases h
    refine ⟨hVn, h1.nx.symm, by rw [h1.lo]; exact (minN_le _ _).1, fun b => ?_⟩
    rw [hV]; exact c b

theorem Tr.grown {t : List Ent} (h : Tr (P := P) ng sm rec ops s0 t) (hc : s0.hp.nx ≤ 2 ^ HD) : Grown s0 t := by
  induction h with
  | nil => exact ⟨Nat.le_refl _, hc, fun p hp => by simp [nps] at hp, rfl, rfl, rfl⟩
  | cons ht k ih =>
    rename_i e t
    have hn := ent_nx ih k
    have hpre := k.pre
    obtain ⟨_, q2, q3, q4, _⟩ := putO_more k.put
    refine ⟨?_, hn.cap, ?_, ?_, ?_, ?_⟩
    · show s0.hp.nx ≤ e.post.hp.nx
      have := ih.nx; rw [← hpre] at this
      exact Nat.le_trans this hn.nx
    · intro p hp
      show p.hi ≤ e.post.hp.nx
      unfold nps at hp
      rw [List.filterMap_cons] at hp
      split at hp
      · have := ih.np p hp
        rw [← hpre] at this
        exact Nat.le_trans this hn.nx
      · rename_i q hq
        rcases List.mem_cons.1 hp with rfl | hp
        · unfold toNp at hq
          split at hq
          · cases hq; exact Nat.le_refl _
          · cases hq
        · have := ih.np p hp
          rw [← hpre] at this
          exact Nat.le_trans this hn.nx
    · show e.post.ntm = s0.ntm
      rw [q2]; show e.pre.ntm = _; rw [hpre]; exact ih.ntm
    · show e.post.df = s0.df
      rw [q3]; show e.pre.df = _; rw [hpre]; exact ih.rest.1
    · show e.post.md = s0.md
      rw [q4]; show e.pre.md = _; rw [hpre]; exact ih.rest.2

theorem untouched {e : Ent} {t : List Ent} (g : Grown s0 t) (k : EntOK (P := P) ng sm rec ops s0 e t) {b : Nat} (h : ¬ Touch e t b) (o : AObj) : LiveAt e.post.hp b o ↔ LiveAt e.pre.hp b o := by
  have hn := ent_nx g k
  have hcap : e.pre.hp.nx ≤ 2 ^ HD := by rw [k.pre]; exact g.cap
  have hh := k.how
  unfold HowOK at hh
  split at hh
  · rw [hh.1]
  · rename_i V V' lo hv
    obtain ⟨_, hV, _, hx, h1, _⟩ := hh
    obtain ⟨v1, v2, v3, v4⟩ := hn.view V V' lo hv
    by_cases hk : Killed e.mask (nps t) b
    · unfold LiveAt
      rw [h1.dead b hk]
      cases hg : e.pre.hp.get b with
      | none =>
        simp only [Option.getD_none, Option.some.injEq]
        constructor
        · rintro ⟨rfl, h⟩; cases h
        · rintro ⟨h, _⟩; cases h
      | some x => simp
    · have he := h1.else_ b hk
      unfold LiveAt
      rw [he]
      rcases Nat.lt_or_ge b V'.nx with hb | hb
      · have hlo : b < lo := by
          rcases Nat.lt_or_ge b lo with h2 | h2
          · exact h2
          · exact absurd ⟨V, V', lo, hv, hk, h2, hb⟩ h
        rw [h1.lo] at hlo
        have := (minN_le e.pre.hp.nx V'.lw)
        have h7 := hx.old (by rw [v1]; exact hcap) b (by rw [v1]; omega) (by omega) o
        rw [(v4 b).2 hk] at h7
        exact ⟨fun q => ⟨(h7 q.2).1 q.1, q.2⟩, fun q => ⟨(h7 q.2).2 q.1, q.2⟩⟩
      · have e1 : V'.get b = none := by
          cases hq : V'.get b with
          | none => rfl
          | some x => have := Hp.get_lt hq; omega
        have e2 : e.pre.hp.get b = none := by
          cases hq : e.pre.hp.get b with
          | none => rfl
          | some x => have := Hp.get_lt hq; have := hn.nx; omega
        rw [e1, e2]

/-- All that has changed a block having run, it holds what the run says. -/
theorem GL_all {D : Nat → Prop} : ∀ {t : List Ent}, Tr (P := P) ng sm rec ops s0 t → s0.hp.nx ≤ 2 ^ HD → ∀ {b : Nat} {o : AObj}, (∀ t1 r t2, t = t2 ++ r :: t1 → Touch r t1 b → D r.i) → LiveAt (cur s0 t).hp b o →
    ∃ n, n ≤ (cur s0 t).hp.nx ∧ GL D s0.hp t b o n
  | [], _, _, b, o, _, hl => ⟨_, Nat.le_refl _, hl, rfl⟩
  | e :: t, h, hc, b, o, hd, hl => by
    cases h with
    | cons ht k =>
      have g := ht.grown hc
      have hn := ent_nx g k
      by_cases htc : Touch e t b
      · exact ⟨_, Nat.le_refl _, .inl ⟨hd t e [] rfl htc, htc, hl, rfl⟩⟩
      · have hl2 : LiveAt e.pre.hp b o := (untouched g k htc o).1 hl
        rw [k.pre] at hl2
        obtain ⟨n, h1, h2⟩ := GL_all ht hc (fun t1 r t2 he => hd t1 r (e :: t2) (by rw [he]; rfl)) hl2
        have hnx := hn.nx
        rw [k.pre] at hnx
        exact ⟨n, Nat.le_trans h1 hnx, .inr ⟨fun hh => htc hh.2, h2⟩⟩

theorem GL_skip {D : Nat → Prop} {h0 : Hp} {t1 : List Ent} : ∀ {t2 : List Ent} {b : Nat} {o : AObj} {n : Nat}, (∀ f u v, t2 = u ++ f :: v → ¬ (D f.i ∧ Touch f (v ++ t1) b)) → GL D h0 t1 b o n → GL D h0 (t2 ++ t1) b o n
  | [], _, _, _, _, h => h
  | f :: t2, b, o, n, hs, h => .inr ⟨hs f [] t2 rfl, GL_skip (fun g u v he => hs g (f :: u) v (by rw [he]; rfl)) h⟩

theorem KL_all {D : Nat → Prop} : ∀ {t : List Ent}, Tr (P := P) ng sm rec ops s0 t → s0.hp.nx ≤ 2 ^ HD → s0.ntm ≤ 2 ^ TD → ∀ {x : Nat} {v : Value}, x < 2 ^ TD → (∀ r ∈ t, r.o.dst = some x → D r.i) → T.get TD (cur s0 t).tm x = some v →
    ∃ n, n ≤ (cur s0 t).hp.nx ∧ KL D s0 t x v n
  | [], _, _, _, x, v, _, _, hl => ⟨_, Nat.le_refl _, hl, rfl⟩
  | e :: t, h, hc, hm, x, v, hx, hd, hl => by
    cases h with
    | cons ht k =>
      have g := ht.grown hc
      have hn := ent_nx g k
      have hnx := hn.nx
      rw [k.pre] at hnx
      obtain ⟨q1, q2, _, _, q5⟩ := putO_more k.put
      have hntm : e.pre.ntm = s0.ntm := by rw [k.pre]; exact g.ntm
      by_cases hdx : e.o.dst = some x
      · have hv : v = e.v := by
          rcases q5 with ⟨h1, _⟩ | ⟨y, h1, h2, h3⟩
          · rw [h1] at hdx; cases hdx
          · rw [h1] at hdx; cases hdx
            have hl : T.get TD e.post.tm x = some v := hl
            rw [h3, T.get_set _ _ _ _ _ hx hx, if_pos rfl] at hl
            cases hl; rfl
        exact ⟨_, Nat.le_refl _, .inl ⟨hd e List.mem_cons_self hdx, hdx, hv, rfl⟩⟩
      · have hl2 : T.get TD e.pre.tm x = some v := by
          have hl : T.get TD e.post.tm x = some v := hl
          rcases q5 with ⟨_, h3⟩ | ⟨y, h1, h2, h3⟩
          · rw [h3] at hl; exact hl
          · have hy : y < 2 ^ TD := Nat.lt_of_lt_of_le (show y < e.pre.ntm from h2) (hntm ▸ hm)
            rw [h3, T.get_set _ _ _ _ _ hy hx, if_neg (fun hh => hdx (by rw [h1, hh]))] at hl
            exact hl
        rw [k.pre] at hl2
        obtain ⟨n, h1, h2⟩ := KL_all ht hc hm hx (fun r hr => hd r (List.mem_cons_of_mem _ hr)) hl2
        exact ⟨n, Nat.le_trans h1 hnx, .inr ⟨fun hh => hdx hh.2, h2⟩⟩

theorem KL_skip {D : Nat → Prop} {t1 : List Ent} : ∀ {t2 : List Ent} {x : Nat} {v : Value} {n : Nat}, (∀ f ∈ t2, ¬ (D f.i ∧ f.o.dst = some x)) → KL D s0 t1 x v n → KL D s0 (t2 ++ t1) x v n
  | [], _, _, _, _, h => h
  | f :: _, _, _, _, hs, h => .inr ⟨hs f List.mem_cons_self, KL_skip (fun g hg => hs g (List.mem_cons_of_mem _ hg)) h⟩

/-! ### Order -/
theorem Tr.tail {t2 t1 : List Ent} (h : Tr (P := P) ng sm rec ops s0 (t2 ++ t1)) : Tr (P := P) ng sm rec ops s0 t1 := by
  induction t2 with
  | nil => exact h
  | cons e t ih => cases h with | cons ht _ => exact ih ht

theorem Tr.at {t2 t1 : List Ent} {e : Ent} (h : Tr (P := P) ng sm rec ops s0 (t2 ++ e :: t1)) : EntOK (P := P) ng sm rec ops s0 e t1 ∧ Tr (P := P) ng sm rec ops s0 t1 := by
  have := h.tail
  cases this with | cons ht k => exact ⟨k, ht⟩

theorem Tr.nx_le {t1 : List Ent} (hc : s0.hp.nx ≤ 2 ^ HD) : ∀ {t2 : List Ent}, Tr (P := P) ng sm rec ops s0 (t2 ++ t1) → (cur s0 t1).hp.nx ≤ (cur s0 (t2 ++ t1)).hp.nx
  | [], _ => Nat.le_refl _
  | e :: t2, h => by
    cases h with
    | cons ht k =>
      have := ent_nx (ht.grown hc) k
      have h1 := Tr.nx_le hc ht
      have hnx := this.nx
      rw [k.pre] at hnx
      exact Nat.le_trans h1 hnx

/-- What is done of a run: closed under 'must be behind'. -/
theorem dep_done {D : Nat → Prop} (hD : Closed ops D) {e : Ent} {t : List Ent} (k : EntOK (P := P) ng sm rec ops s0 e t) (he : D e.i) {j : Nat} (hj : Nat.testBit e.mask j = true) : D j :=
  k.dep D hD (fun x hx hb => hD e.i e.o he k.op x hx hb) j hj

theorem mem_nps {e : Ent} {t2 t1 : List Ent} {V V' : Hp} {lo : Nat} (hv : e.hv = some (V, V', lo)) : ({ j := e.i, mask := e.mask, lo, hi := e.post.hp.nx } : DNp) ∈ nps (t2 ++ e :: t1) := by
  unfold nps
  rw [List.mem_filterMap]
  exact ⟨e, by simp, by simp [toNp, hv]⟩

/-- What a later, unordered entry that has run may not have touched: what this one sees. -/
theorem apart_later {D : Nat → Prop} (hc : s0.hp.nx ≤ 2 ^ HD) (hD : Closed ops D) {t1 : List Ent} {e : Ent} {V V' : Hp} {lo : Nat} (hv : e.hv = some (V, V', lo)) (hne : ¬ D e.i) {f : Ent} {v : List Ent}
    (kf : EntOK (P := P) ng sm rec ops s0 f (v ++ e :: t1)) (hT : Tr (P := P) ng sm rec ops s0 (v ++ e :: t1)) (hf : D f.i) {b : Nat} {o : AObj} (hb : LiveAt V b o) : ¬ Touch f (v ++ e :: t1) b := by
  rintro ⟨W, W', lof, hfv, hnk, hlo, hhi⟩
  obtain ⟨ke, ht1⟩ := hT.at
  have gt := hT.grown hc
  have ge := ht1.grown hc
  have ne := ent_nx ge ke
  have nf := ent_nx gt kf
  have hme : Nat.testBit f.mask e.i = false := by
    cases hq : Nat.testBit f.mask e.i with
    | false => rfl
    | true => exact absurd (dep_done hD kf hf hq) hne
  have hmem := mem_nps (t2 := v) (t1 := t1) hv
  obtain ⟨w1, w2, w3, w4⟩ := ne.view V V' lo hv
  have hbn : b < e.pre.hp.nx := by rw [← w1]; exact Hp.get_lt hb.1
  have hh := kf.how
  unfold HowOK at hh
  rw [hfv] at hh
  simp only at hh
  obtain ⟨_, _, _, _, h1, hcond⟩ := hh
  have hef : e.pre.hp.nx ≤ f.pre.hp.nx := by
    have := Tr.nx_le hc hT (t2 := v) (t1 := e :: t1)
    have hp := kf.pre
    rw [hp]
    exact Nat.le_trans ne.nx this
  rcases hcond with hs | hs | ⟨hs1, hs2⟩
  · have := List.all_eq_true.1 hs _ hmem
    rw [hme] at this; cases this
  · have := h1.lo
    unfold minN at this
    split at this <;> omega
  · have hlof : W'.lw ≤ b := by
      have := h1.lo
      unfold minN at this
      split at this <;> omega
    have ha := hs2 _ hmem
    unfold apart2 at ha
    simp only [hme] at ha
    -- who made the block
    have : ∀ (u : List Ent) (w : List Ent), t1 = w ++ u → s0.hp.nx ≤ b → b < (cur s0 u).hp.nx → False := by
      intro u
      induction u with
      | nil => intro w hw hs h2; exact absurd h2 (by simp [cur]; omega)
      | cons r u ih =>
        intro w hw hs h2
        subst hw
        obtain ⟨kr, hu⟩ := ht1.at
        have nr := ent_nx (hu.grown hc) kr
        rcases Nat.lt_or_ge b r.pre.hp.nx with h3 | h3
        · rw [kr.pre] at h3
          exact ih (w ++ [r]) (by simp) hs h3
        · have h2 : b < r.post.hp.nx := h2
          have hrv : ∃ R R' lor, r.hv = some (R, R', lor) := by
            cases hq : r.hv with
            | none =>
              have hh := kr.how
              unfold HowOK at hh
              rw [hq] at hh
              simp only at hh
              rw [hh.1] at h2; omega
            | some p => exact ⟨p.1, p.2.1, p.2.2, rfl⟩
          obtain ⟨R, R', lor, hrv⟩ := hrv
          obtain ⟨x1, x2, x3, _⟩ := nr.view R R' lor hrv
          have hm1 := mem_nps (t2 := w) (t1 := u) hrv
          have hbit : Nat.testBit e.mask r.i = true := by
            cases hq : Nat.testBit e.mask r.i with
            | true => rfl
            | false =>
              have hk : Killed e.mask (nps (w ++ r :: u)) b := ⟨_, hm1, hq, by simp only; omega, h2⟩
              have := (w4 b).1 hk
              rw [hb.1] at this
              cases this
              have := hb.2
              cases this
          have hm2 : ({ j := r.i, mask := r.mask, lo := lor, hi := r.post.hp.nx } : DNp) ∈ nps (v ++ e :: (w ++ r :: u)) := by
            have := mem_nps (t2 := v ++ e :: w) (t1 := u) hrv
            simpa using this
          have := List.all_eq_true.1 ha _ hm2
          simp only [hbit, Bool.not_true, Bool.false_or, Nat.ble_eq] at this
          omega
    rcases Nat.lt_or_ge b s0.hp.nx with h3 | h3
    · omega
    · refine this t1 [] rfl h3 ?_
      rw [← ke.pre]; exact hbn

end
end Go.Ev

/-! Drawn regions, 3: the relation between a run's entries, some of them done, and the machine's state; one entry more. -/
namespace Go.Ev
open Go

section
variable (P : Program) (s0 : St) (μ0 : Mu) (w0 : World) (a0 : Act)

structure DW (D : Nat → Prop) (t : List Ent) (μ : Mu) (w : World) (a : Act) : Prop where
  live : ∀ b o n, GL D s0.hp t b o n → (∃ l o', μ b = some l ∧ w.heap[l.blk]? = some o' ∧ OR P μ l o o') ∧ WFo P n o
  inj : ∀ b1 b2 o1 o2 n1 n2 l1 l2, GL D s0.hp t b1 o1 n1 → GL D s0.hp t b2 o2 n2 → μ b1 = some l1 → μ b2 = some l2 → l1.blk = l2.blk → b1 = b2
  none : ∀ b, s0.hp.nx ≤ b → (∀ e ∈ t, D e.i → ¬ (e.pre.hp.nx ≤ b ∧ b < e.post.hp.nx)) → μ b = none
  base : ∀ b, b < s0.hp.nx → μ b = μ0 b
  sz : w0.heap.size ≤ w.heap.size
  keep : ∀ r, r < w0.heap.size → (∀ b l, s0.hp.live b → μ0 b = some l → l.blk ≠ r) → w.heap[r]? = w0.heap[r]?
  img : ∀ b o n l, GL D s0.hp t b o n → μ b = some l → l.blk < w0.heap.size → ∃ b1 l1, s0.hp.live b1 ∧ μ0 b1 = some l1 ∧ l1.blk = l.blk
  size : a.tmps.size = s0.ntm
  tm : ∀ x v n, x < 2 ^ TD → KL D s0 t x v n → ∃ v', a.tmps[x]? = some v' ∧ VR μ v v' ∧ WFv n v
  df : a.defers = a0.defers
  wk : WK w0 w
end

def Plus (D : Nat → Prop) (i : Nat) : Nat → Prop := fun j => D j ∨ j = i

section
variable {P : Program} {ng : Nat} {sm : Sums} {rec : Tk → Out} {ops : Array Oper} {s0 : St} {μ0 : Mu} {w0 : World} {a0 : Act}

theorem GL_congr {D D' : Nat → Prop} {h0 : Hp} : ∀ {t : List Ent}, (∀ r ∈ t, D' r.i ↔ D r.i) → ∀ {b : Nat} {o : AObj} {n : Nat}, GL D' h0 t b o n → GL D h0 t b o n
  | [], _, _, _, _, h => h
  | e :: t, hd, _, _, _, h => by
    have he := hd e List.mem_cons_self
    rcases h with ⟨a, b⟩ | ⟨a, b⟩
    · exact .inl ⟨he.1 a, b⟩
    · exact .inr ⟨fun hh => a ⟨he.2 hh.1, hh.2⟩, GL_congr (fun r hr => hd r (List.mem_cons_of_mem _ hr)) b⟩

theorem KL_congr {D D' : Nat → Prop} : ∀ {t : List Ent}, (∀ r ∈ t, D' r.i ↔ D r.i) → ∀ {x : Nat} {v : Value} {n : Nat}, KL D' s0 t x v n → KL D s0 t x v n
  | [], _, _, _, _, h => h
  | e :: t, hd, _, _, _, h => by
    have he := hd e List.mem_cons_self
    rcases h with ⟨a, b⟩ | ⟨a, b⟩
    · exact .inl ⟨he.1 a, b⟩
    · exact .inr ⟨fun hh => a ⟨he.2 hh.1, hh.2⟩, KL_congr (fun r hr => hd r (List.mem_cons_of_mem _ hr)) b⟩

theorem plus_iff {D : Nat → Prop} {i : Nat} {r : Ent} (h : r.i ≠ i) : Plus D i r.i ↔ D r.i := ⟨fun hh => hh.resolve_right h, .inl⟩

theorem GL_upd {D : Nat → Prop} {h0 : Hp} {e : Ent} {t1 : List Ent} (h1 : ∀ r ∈ t1, r.i ≠ e.i) (hne : ¬ D e.i) : ∀ {t2 : List Ent}, (∀ r ∈ t2, r.i ≠ e.i) → ∀ {b : Nat} {o : AObj} {n : Nat}, GL (Plus D e.i) h0 (t2 ++ e :: t1) b o n →
    (Touch e t1 b ∧ LiveAt e.post.hp b o ∧ n = e.post.hp.nx) ∨ (GL D h0 (t2 ++ e :: t1) b o n ∧ (¬ Touch e t1 b ∨ ∃ u f v, t2 = u ++ f :: v ∧ D f.i ∧ Touch f (v ++ e :: t1) b))
  | [], _, b, o, n, h => by
    rcases h with ⟨_, h⟩ | ⟨a, h⟩
    · exact .inl h
    · exact .inr ⟨.inr ⟨fun hh => hne hh.1, GL_congr (fun r hr => plus_iff (h1 r hr)) h⟩, .inl fun hh => a ⟨.inr rfl, hh⟩⟩
  | f :: t2, h2, b, o, n, h => by
    have hf := plus_iff (D := D) (h2 f List.mem_cons_self)
    rcases h with ⟨a, h⟩ | ⟨a, h⟩
    · exact .inr ⟨.inl ⟨hf.1 a, h⟩, .inr ⟨[], f, t2, rfl, hf.1 a, h.1⟩⟩
    · rcases GL_upd h1 hne (fun r hr => h2 r (List.mem_cons_of_mem _ hr)) h with h | ⟨h, k⟩
      · exact .inl h
      · refine .inr ⟨.inr ⟨fun hh => a ⟨hf.2 hh.1, hh.2⟩, h⟩, k.imp id ?_⟩
        rintro ⟨u, g, v, rfl, h3, h4⟩
        exact ⟨f :: u, g, v, rfl, h3, h4⟩

theorem KL_upd {D : Nat → Prop} {e : Ent} {t1 : List Ent} (h1 : ∀ r ∈ t1, r.i ≠ e.i) (hne : ¬ D e.i) : ∀ {t2 : List Ent}, (∀ r ∈ t2, r.i ≠ e.i) → (∀ r ∈ t2, ∀ a, e.o.dst = some a → r.o.dst ≠ some a) → ∀ {x : Nat} {v : Value} {n : Nat}, KL (Plus D e.i) s0 (t2 ++ e :: t1) x v n →
    (e.o.dst = some x ∧ v = e.v ∧ n = e.post.hp.nx) ∨ (KL D s0 (t2 ++ e :: t1) x v n ∧ e.o.dst ≠ some x)
  | [], _, _, x, v, n, h => by
    rcases h with ⟨_, h⟩ | ⟨a, h⟩
    · exact .inl h
    · exact .inr ⟨.inr ⟨fun hh => hne hh.1, KL_congr (fun r hr => plus_iff (h1 r hr)) h⟩, fun hh => a ⟨.inr rfl, hh⟩⟩
  | f :: t2, h2, h3, x, v, n, h => by
    have hf := plus_iff (D := D) (h2 f List.mem_cons_self)
    rcases h with ⟨a, h⟩ | ⟨a, h⟩
    · exact .inr ⟨.inl ⟨hf.1 a, h⟩, fun hh => h3 f List.mem_cons_self _ hh h.1⟩
    · rcases KL_upd h1 hne (fun r hr => h2 r (List.mem_cons_of_mem _ hr)) (fun r hr => h3 r (List.mem_cons_of_mem _ hr)) h with h | ⟨h, k⟩
      · exact .inl h
      · exact .inr ⟨.inr ⟨fun hh => a ⟨hf.2 hh.1, hh.2⟩, h⟩, k⟩

/-- What is known where an entry's turn has come. -/
structure Turn (P : Program) (ng : Nat) (sm : Sums) (rec : Tk → Out) (ops : Array Oper) (s0 : St) (D : Nat → Prop) (t2 : List Ent) (e : Ent) (t1 : List Ent) : Prop where
  tr : Tr (P := P) ng sm rec ops s0 (t2 ++ e :: t1)
  cap : s0.hp.nx ≤ 2 ^ HD
  ntm : s0.ntm ≤ 2 ^ TD
  cl : Closed ops D
  ne : ¬ D e.i
  rdy : Ready D e.o

namespace Turn
variable {D : Nat → Prop} {t2 t1 : List Ent} {e : Ent}

theorem ok (T : Turn P ng sm rec ops s0 D t2 e t1) : EntOK (P := P) ng sm rec ops s0 e t1 := T.tr.at.1
theorem tr1 (T : Turn P ng sm rec ops s0 D t2 e t1) : Tr (P := P) ng sm rec ops s0 t1 := T.tr.at.2
theorem nx (T : Turn P ng sm rec ops s0 D t2 e t1) : EntNx e t1 := ent_nx (T.tr1.grown T.cap) T.ok
theorem later (T : Turn P ng sm rec ops s0 D t2 e t1) {u v : List Ent} {f : Ent} (h : t2 = u ++ f :: v) : EntOK (P := P) ng sm rec ops s0 f (v ++ e :: t1) ∧ Tr (P := P) ng sm rec ops s0 (v ++ e :: t1) := by
  have := T.tr
  rw [h, List.append_assoc] at this
  exact Tr.at this
theorem split {f : Ent} (h : f ∈ t2) : ∃ u v, t2 = u ++ f :: v := List.append_of_mem h
theorem new1 (T : Turn P ng sm rec ops s0 D t2 e t1) : ∀ r ∈ t1, r.i ≠ e.i := T.ok.new
theorem new2 (T : Turn P ng sm rec ops s0 D t2 e t1) : ∀ r ∈ t2, r.i ≠ e.i := fun r hr => by
  obtain ⟨u, v, h⟩ := split hr
  exact Ne.symm ((T.later h).1.new e (by simp))
theorem dst2 (T : Turn P ng sm rec ops s0 D t2 e t1) : ∀ r ∈ t2, ∀ a, e.o.dst = some a → r.o.dst ≠ some a := fun r hr => by
  obtain ⟨u, v, h⟩ := split hr
  exact (T.later h).1.ap1 e (by simp)
theorem masked (T : Turn P ng sm rec ops s0 D t2 e t1) {j : Nat} (h : Nat.testBit e.mask j = true) : D j := T.ok.dep D T.cl T.rdy j h
theorem base_le (T : Turn P ng sm rec ops s0 D t2 e t1) : s0.hp.nx ≤ e.pre.hp.nx := by rw [T.ok.pre]; exact (T.tr1.grown T.cap).nx

/-- What it sees of the heap is so. -/
theorem seen (T : Turn P ng sm rec ops s0 D t2 e t1) {V V' : Hp} {lo : Nat} (hv : e.hv = some (V, V', lo)) {b : Nat} {o : AObj} (hb : LiveAt V b o) : ∃ n, n ≤ e.pre.hp.nx ∧ GL D s0.hp (t2 ++ e :: t1) b o n := by
  obtain ⟨v1, v2, v3, v4⟩ := T.nx.view V V' lo hv
  have hnk : ¬ Killed e.mask (nps t1) b := fun hk => by
    have := (v4 b).1 hk
    rw [hb.1] at this; cases this
    have := hb.2; cases this
  have hl : LiveAt (cur s0 t1).hp b o := by
    have := (v4 b).2 hnk
    rw [T.ok.pre] at this
    exact ⟨by rw [← this]; exact hb.1, hb.2⟩
  have key : ∀ t1' r t2', t1 = t2' ++ r :: t1' → Touch r t1' b → D r.i := by
    intro t1' r t2' he ht
    have hT1 := T.tr1
    rw [he] at hT1
    obtain ⟨kr, hu⟩ := hT1.at
    have nr := ent_nx (hu.grown T.cap) kr
    obtain ⟨R, R', lor, hrv, _, hlo, hhi⟩ := ht
    obtain ⟨x1, x2, x3, _⟩ := nr.view R R' lor hrv
    cases hq : Nat.testBit e.mask r.i with
    | true => exact T.masked hq
    | false =>
      have hm : ({ j := r.i, mask := r.mask, lo := lor, hi := r.post.hp.nx } : DNp) ∈ nps t1 := by rw [he]; exact mem_nps hrv
      exact absurd ⟨_, hm, hq, hlo, by simp only; omega⟩ hnk
  obtain ⟨n, h1, h2⟩ := GL_all (D := D) T.tr1 T.cap key hl
  refine ⟨n, by rw [T.ok.pre]; exact h1, GL_skip (fun f u v he => ?_) (.inr ⟨fun hh => T.ne hh.1, h2⟩)⟩
  rintro ⟨hf, hft⟩
  obtain ⟨kf, hT⟩ := T.later he
  exact apart_later T.cap T.cl hv T.ne kf hT hf hb hft

/-- What it sees of the frame is so. -/
theorem seenT (T : Turn P ng sm rec ops s0 D t2 e t1) {x : Nat} {v : Value} (hx : x < 2 ^ TD) (hl : Nat.testBit e.lk x = true) (hg : Go.Ev.T.get TD e.pre.tm x = some v) : ∃ n, n ≤ e.pre.hp.nx ∧ KL D s0 (t2 ++ e :: t1) x v n := by
  rw [T.ok.pre] at hg
  have key : ∀ r ∈ t1, r.o.dst = some x → D r.i := by
    intro r hr hd
    cases hq : Nat.testBit e.mask r.i with
    | true => exact T.masked hq
    | false =>
      have := (T.ok.ap2 r hr hq).1 x hd
      rw [hl] at this; cases this
  obtain ⟨n, h1, h2⟩ := KL_all (D := D) T.tr1 T.cap T.ntm hx key hg
  refine ⟨n, by rw [T.ok.pre]; exact h1, KL_skip (fun f hf => ?_) (.inr ⟨fun hh => T.ne hh.1, h2⟩)⟩
  rintro ⟨hfd, hft⟩
  obtain ⟨u, w, h⟩ := split hf
  obtain ⟨kf, _⟩ := T.later h
  cases hq : Nat.testBit f.mask e.i with
  | true => exact T.ne (dep_done T.cl kf hfd hq)
  | false =>
    have := (kf.ap2 e (by simp) hq).2 x hft
    rw [hl] at this; cases this

variable {μ : Mu} {w : World} {a : Act}

theorem okm (T : Turn P ng sm rec ops s0 D t2 e t1) (W : DW P s0 μ0 w0 a0 D (t2 ++ e :: t1) μ w a) (hlow : Low μ0 s0.hp.nx) (hg : GlR μ0 ng) (hpin : PinR P μ0 s0.hp w0) {V V' : Hp} {lo : Nat} (hv : e.hv = some (V, V', lo)) : OKm P ng (μ.cut e.pre.hp.nx) V w := by
  obtain ⟨v1, v2, v3, v4⟩ := T.nx.view V V' lo hv
  refine ⟨⟨?_, ?_, ?_⟩, fun b hb => Mu.cut_ge (by omega), fun g hgn => ?_, hpin.of W.keep fun b l ⟨o, hb, hd⟩ hm hs => ?_⟩
  · intro b o hb hd
    obtain ⟨n, h1, h2⟩ := T.seen hv ⟨hb, hd⟩
    obtain ⟨⟨l, o', k1, k2, k3⟩, wf⟩ := W.live b o n h2
    have hlt : b < e.pre.hp.nx := by rw [← v1]; exact Hp.get_lt hb
    exact ⟨l, o', by rw [Mu.cut_lt hlt]; exact k1, k2, k3.cut wf h1⟩
  · rintro b1 b2 l1 l2 ⟨o1, h1, d1⟩ ⟨o2, h2, d2⟩ e1 e2 he
    obtain ⟨n1, _, g1⟩ := T.seen hv ⟨h1, d1⟩
    obtain ⟨n2, _, g2⟩ := T.seen hv ⟨h2, d2⟩
    exact W.inj b1 b2 o1 o2 n1 n2 l1 l2 g1 g2 (Mu.cut_some e1).2 (Mu.cut_some e2).2 he
  · rw [v1, T.ok.pre]; exact (T.tr1.grown T.cap).cap
  · have h1 := hg g hgn
    have h2 := hlow.some h1
    have h3 := T.base_le
    rw [Mu.cut_lt (by omega), W.base g h2]; exact h1
  · obtain ⟨n1, _, g1⟩ := T.seen hv ⟨hb, hd⟩
    exact W.img b o n1 l g1 (Mu.cut_some hm).2 hs

theorem env (T : Turn P ng sm rec ops s0 D t2 e t1) (W : DW P s0 μ0 w0 a0 D (t2 ++ e :: t1) μ w a) (hlow : Low μ0 s0.hp.nx) (hg : GlR μ0 ng) : ER (μ.cut e.pre.hp.nx) (evalL ng e.lk e.pre.tm) a.eval := by
  intro x v hx
  cases x with
  | tmp y =>
    simp only [evalL] at hx
    split at hx
    · rename_i hl
      simp only [evalX] at hx
      split at hx
      · rename_i hb
        have hb : y < 2 ^ TD := by simpa [Nat.blt_eq] using hb
        obtain ⟨n, h1, h2⟩ := T.seenT hb hl hx
        obtain ⟨v', k1, k2, k3⟩ := W.tm y v n hb h2
        have : a.eval (.tmp y) = v' := by simp [Act.eval, k1]
        rw [this]
        exact k2.cut k3 h1
      · cases hx
    · cases hx
  | const v0 =>
    simp only [evalL, evalX] at hx
    split at hx
    · rename_i hgr; cases hx; exact gr_refl 6 _ hgr
    · cases hx
  | global g =>
    simp only [evalL, evalX] at hx
    split at hx
    · rename_i hb
      cases hx
      have hb : g < ng := by simpa [Nat.blt_eq] using hb
      have h1 := hg g hb
      have h2 := hlow.some h1
      have h3 := T.base_le
      have : μ.cut e.pre.hp.nx g = some ⟨g, 0, 0⟩ := by rw [Mu.cut_lt (by omega), W.base g h2]; exact h1
      have := VR.ptr (o := 0) this
      simpa [Act.eval] using this
    · cases hx
  | func f =>
    simp only [evalL, evalX, Option.some.injEq] at hx
    subst hx
    exact .func (.func f) rfl (fun i x y hx _ => by simp at hx) rfl (fun i x y hx _ => by simp at hx)

theorem low' {μc' : Mu} {V V' : Hp} {w' : World} {n : Nat} (hf : Fr (μ.cut n) V w μc' V' w') (hn : n ≤ V'.nx) : Low μc' V'.nx := fun b hb => by
  rw [hf.out b (.inr hb)]; exact Mu.cut_ge (by omega)

/-- The names after: the news' own. -/
def _root_.Go.Ev.Mu.join (μ μc : Mu) (n m : Nat) : Mu := fun b => if n ≤ b ∧ b < m then μc b else μ b

theorem step_heap (T : Turn P ng sm rec ops s0 D t2 e t1) (W : DW P s0 μ0 w0 a0 D (t2 ++ e :: t1) μ w a) {V V' : Hp} {lo : Nat} (hv : e.hv = some (V, V', lo)) {μc' : Mu} {w' : World} {v' : Value}
    (hwr : WR P μc' V' w') (hf : Fr (μ.cut e.pre.hp.nx) V w μc' V' w') (hvr : VR μc' e.v v') :
    DW P s0 μ0 w0 a0 (Plus D e.i) (t2 ++ e :: t1) (μ.join μc' e.pre.hp.nx e.post.hp.nx) w' (a.put e.o.dst v') := by
  obtain ⟨v1, v2, v3, v4⟩ := T.nx.view V V' lo hv
  have hnx := T.nx.nx
  have hbase := T.base_le
  have hcapV : V.nx ≤ 2 ^ HD := by rw [v1, T.ok.pre]; exact (T.tr1.grown T.cap).cap
  have hh := T.ok.how
  unfold HowOK at hh
  rw [hv] at hh
  simp only at hh
  obtain ⟨_, _, _, hext, h1, _⟩ := hh
  have low := low' hf (by rw [v2]; exact hnx)
  have hno : ∀ b, e.pre.hp.nx ≤ b → b < e.post.hp.nx → μ b = none := by
    intro b hb1 hb2
    refine W.none b (by omega) fun f hfm hfd => ?_
    rintro ⟨k1, k2⟩
    rcases List.mem_append.1 hfm with h | h
    · obtain ⟨u, v, hs⟩ := split h
      obtain ⟨kf, hT⟩ := T.later hs
      have := Tr.nx_le T.cap hT
      rw [← kf.pre] at this
      have : e.post.hp.nx ≤ f.pre.hp.nx := this
      omega
    · rcases List.mem_cons.1 h with rfl | h
      · exact T.ne hfd
      · obtain ⟨u, v, hs⟩ := split h
        have hT := T.tr1
        have := Tr.nx_le T.cap (t2 := u) (t1 := f :: v) (by rw [← hs]; exact hT)
        rw [← hs, ← T.ok.pre] at this
        have : f.post.hp.nx ≤ e.pre.hp.nx := this
        omega
  have le1 : μ.le (μ.join μc' e.pre.hp.nx e.post.hp.nx) := by
    intro b l hb
    unfold Mu.join
    by_cases hr : e.pre.hp.nx ≤ b ∧ b < e.post.hp.nx
    · rw [hno b hr.1 hr.2] at hb; cases hb
    · rw [if_neg hr]; exact hb
  have le2 : μc'.le (μ.join μc' e.pre.hp.nx e.post.hp.nx) := by
    intro b l hb
    unfold Mu.join
    by_cases hr : e.pre.hp.nx ≤ b ∧ b < e.post.hp.nx
    · rw [if_pos hr]; exact hb
    · rw [if_neg hr]
      have hlt := low.some hb
      have hb2 : b < e.pre.hp.nx := by omega
      rw [hf.out b (.inl (by omega)), Mu.cut_lt hb2] at hb
      exact hb
  have side : ∀ b o n, GL (Plus D e.i) s0.hp (t2 ++ e :: t1) b o n → (LiveAt V' b o ∧ WFo P n o) ∨ (GL D s0.hp (t2 ++ e :: t1) b o n ∧ ∀ x, ¬ LiveAt V b x) := by
    intro b o n hg
    rcases GL_upd T.new1 T.ne T.new2 hg with ⟨ht, hl, hn⟩ | ⟨hgl, hor⟩
    · obtain ⟨V1, V1', lo1, hv1, hnk, _, _⟩ := ht
      have hl' : LiveAt V' b o := ⟨by rw [← h1.else_ b hnk]; exact hl.1, hl.2⟩
      obtain ⟨l, o', k1, k2, k3⟩ := hwr.live b o hl'.1 hl'.2
      exact .inl ⟨hl', μc', l, o', by rw [hn, ← v2]; exact low, k3⟩
    · by_cases hVl : ∃ x, LiveAt V b x
      · obtain ⟨x, hx⟩ := hVl
        obtain ⟨n', _, hgx⟩ := T.seen hv hx
        obtain ⟨rfl, rfl⟩ := hgl.fun hgx
        rcases hor with hnt | ⟨u, f, v, hs, hfd, hft⟩
        · have hnk : ¬ Killed e.mask (nps t1) b := fun hk => by
            have := (v4 b).1 hk
            rw [hx.1] at this; cases this
            have := hx.2; cases this
          have hbV := Hp.get_lt hx.1
          have hlo : b < lo := by
            rcases Nat.lt_or_ge b lo with h2 | h2
            · exact h2
            · exact absurd ⟨V, V', lo, hv, hnk, h2, by omega⟩ hnt
          have hl := h1.lo
          have := minN_le e.pre.hp.nx V'.lw
          have hlw : b < V'.lw := by omega
          refine .inl ⟨⟨(hext.old hcapV b hbV hlw o hx.2).2 hx.1, hx.2⟩, (W.live b o n hgl).2⟩
        · obtain ⟨kf, hT⟩ := T.later hs
          exact absurd hft (apart_later T.cap T.cl hv T.ne kf hT hfd hx)
      · exact .inr ⟨hgl, fun x hx => hVl ⟨x, hx⟩⟩
  have old : ∀ b o n, GL D s0.hp (t2 ++ e :: t1) b o n → (∀ x, ¬ LiveAt V b x) → ∃ l o', μ b = some l ∧ w.heap[l.blk]? = some o' ∧ w'.heap[l.blk]? = some o' ∧ OR P μ l o o' := by
    intro b o n hgl hnv
    obtain ⟨⟨l, o', k1, k2, k3⟩, _⟩ := W.live b o n hgl
    refine ⟨l, o', k1, k2, ?_, k3⟩
    rw [hf.keep l.blk (Array.getElem?_eq_some_iff.1 k2).1 ?_]
    · exact k2
    · rintro c lc ⟨x, hx, hd⟩ hc he
      obtain ⟨n', _, hgx⟩ := T.seen hv ⟨hx, hd⟩
      have := W.inj c b x o n' n lc l hgx hgl (Mu.cut_some hc).2 k1 he
      subst this
      exact hnv x ⟨hx, hd⟩
  have imgV : ∀ b o l, LiveAt V' b o → μc' b = some l → l.blk < w.heap.size → ∃ c x n lc, LiveAt V c x ∧ GL D s0.hp (t2 ++ e :: t1) c x n ∧ μ c = some lc ∧ lc.blk = l.blk := by
    intro b o l hl hm hlt
    obtain ⟨c, lc, ⟨x, hx, hd⟩, hc, he⟩ := hf.img b l ⟨o, hl.1, hl.2⟩ hm hlt
    obtain ⟨n, _, hg⟩ := T.seen hv ⟨hx, hd⟩
    exact ⟨c, x, n, lc, ⟨hx, hd⟩, hg, (Mu.cut_some hc).2, he⟩
  have muV : ∀ b o l, LiveAt V' b o → (μ.join μc' e.pre.hp.nx e.post.hp.nx) b = some l → μc' b = some l := by
    intro b o l hl hm
    obtain ⟨l', o', k1, _, _⟩ := hwr.live b o hl.1 hl.2
    rw [le2 _ _ k1] at hm; rw [k1]; exact hm
  have muO : ∀ b o n l, GL D s0.hp (t2 ++ e :: t1) b o n → (μ.join μc' e.pre.hp.nx e.post.hp.nx) b = some l → μ b = some l := by
    intro b o n l hg hm
    obtain ⟨⟨l', o', k1, _, _⟩, _⟩ := W.live b o n hg
    rw [le1 _ _ k1] at hm; rw [k1]; exact hm
  refine ⟨?_, ?_, ?_, ?_, ?_, ?_, ?_, ?_, ?_, ?_, ?_⟩
  · intro b o n hg
    rcases side b o n hg with ⟨hl, wf⟩ | ⟨hgl, hnv⟩
    · obtain ⟨l, o', k1, k2, k3⟩ := hwr.live b o hl.1 hl.2
      exact ⟨⟨l, o', le2 _ _ k1, k2, k3.mono le2⟩, wf⟩
    · obtain ⟨l, o', k1, _, k3, k4⟩ := old b o n hgl hnv
      exact ⟨⟨l, o', le1 _ _ k1, k3, k4.mono le1⟩, (W.live b o n hgl).2⟩
  · have mixed : ∀ b1 b2 o1 o2 n2 l1 l2, LiveAt V' b1 o1 → GL D s0.hp (t2 ++ e :: t1) b2 o2 n2 → (∀ x, ¬ LiveAt V b2 x) → (μ.join μc' e.pre.hp.nx e.post.hp.nx) b1 = some l1 → (μ.join μc' e.pre.hp.nx e.post.hp.nx) b2 = some l2 → l1.blk = l2.blk → False := by
      intro b1 b2 o1 o2 n2 l1 l2 hl hgl hnv e1 e2 he
      have m2 := muO b2 o2 n2 l2 hgl e2
      obtain ⟨l, o', k1, k2, _, _⟩ := old b2 o2 n2 hgl hnv
      rw [m2] at k1; cases k1
      have hlt : l1.blk < w.heap.size := by rw [he]; exact (Array.getElem?_eq_some_iff.1 k2).1
      obtain ⟨c, x, n, lc, hc, hgc, hmc, hec⟩ := imgV b1 o1 l1 hl (muV b1 o1 l1 hl e1) hlt
      have := W.inj c b2 x o2 n n2 lc l2 hgc hgl hmc m2 (hec.trans he)
      subst this
      exact hnv x hc
    intro b1 b2 o1 o2 n1 n2 l1 l2 g1 g2 e1 e2 he
    rcases side b1 o1 n1 g1 with ⟨hl1, _⟩ | ⟨hg1, hn1⟩ <;> rcases side b2 o2 n2 g2 with ⟨hl2, _⟩ | ⟨hg2, hn2⟩
    · exact hwr.inj b1 b2 l1 l2 ⟨o1, hl1.1, hl1.2⟩ ⟨o2, hl2.1, hl2.2⟩ (muV b1 o1 l1 hl1 e1) (muV b2 o2 l2 hl2 e2) he
    · exact (mixed b1 b2 o1 o2 n2 l1 l2 hl1 hg2 hn2 e1 e2 he).elim
    · exact (mixed b2 b1 o2 o1 n1 l2 l1 hl2 hg1 hn1 e2 e1 he.symm).elim
    · exact W.inj b1 b2 o1 o2 n1 n2 l1 l2 hg1 hg2 (muO b1 o1 n1 l1 hg1 e1) (muO b2 o2 n2 l2 hg2 e2) he
  · intro b hb hall
    unfold Mu.join
    rw [if_neg (hall e (by simp) (.inr rfl))]
    exact W.none b hb fun f hfm hfd => hall f hfm (.inl hfd)
  · intro b hb
    unfold Mu.join
    rw [if_neg (by omega)]
    exact W.base b hb
  · exact Nat.le_trans W.sz hf.sz
  · intro r hr hn
    have hr2 : r < w.heap.size := Nat.lt_of_lt_of_le hr W.sz
    rw [hf.keep r hr2 ?_]
    · exact W.keep r hr hn
    · rintro c lc ⟨x, hx, hd⟩ hc he
      obtain ⟨n', _, hgx⟩ := T.seen hv ⟨hx, hd⟩
      obtain ⟨b1, l1, k1, k2, k3⟩ := W.img c x n' lc hgx (Mu.cut_some hc).2 (by rw [he]; exact hr)
      exact hn b1 l1 k1 k2 (k3.trans he)
  · intro b o n l hg hm hlt
    rcases side b o n hg with ⟨hl, _⟩ | ⟨hgl, hnv⟩
    · obtain ⟨c, x, n', lc, hc, hgc, hmc, hec⟩ := imgV b o l hl (muV b o l hl hm) (Nat.lt_of_lt_of_le hlt W.sz)
      obtain ⟨b1, l1, k1, k2, k3⟩ := W.img c x n' lc hgc hmc (by rw [hec]; exact hlt)
      exact ⟨b1, l1, k1, k2, k3.trans hec⟩
    · exact W.img b o n l hgl (muO b o n l hgl hm) hlt
  · have := W.size
    cases hd : e.o.dst <;> simp [Act.put, this]
  · intro x v n hx hk
    rcases KL_upd T.new1 T.ne T.new2 T.dst2 hk with ⟨hd, rfl, rfl⟩ | ⟨hkl, hd⟩
    · obtain ⟨_, q2, _, _, q5⟩ := putO_more T.ok.put
      have hxn : x < s0.ntm := by
        rcases q5 with ⟨h, _⟩ | ⟨y, h, h2, _⟩
        · rw [h] at hd; cases hd
        · rw [h] at hd; cases hd
          have h2 : x < e.pre.ntm := h2
          rw [T.ok.pre, (T.tr1.grown T.cap).ntm] at h2
          exact h2
      refine ⟨v', ?_, hvr.mono le2, μc', v', by rw [← v2]; exact low, hvr⟩
      simp [Act.put, hd, W.size, hxn]
    · obtain ⟨u, k1, k2, k3⟩ := W.tm x v n hx hkl
      refine ⟨u, ?_, k2.mono le1, k3⟩
      cases hq : e.o.dst with
      | none => simpa [Act.put] using k1
      | some y =>
        have : y ≠ x := fun h => hd (by rw [hq, h])
        simp [Act.put, Array.getElem?_setIfInBounds_ne this, k1]
  · cases hd : e.o.dst <;> simp [Act.put, W.df]
  · exact W.wk.trans hf.wk

/-- An entry that asks nothing of the heap. -/
theorem step_free (T : Turn P ng sm rec ops s0 D t2 e t1) (W : DW P s0 μ0 w0 a0 D (t2 ++ e :: t1) μ w a) (hv : e.hv = none) {w' : World} {v' : Value} (hs : w.heap.size ≤ w'.heap.size) (hkeep : ∀ r, r < w.heap.size → w'.heap[r]? = w.heap[r]?)
    (hvr : VR (μ.cut e.pre.hp.nx) e.v v') (hwk : WK w w') : DW P s0 μ0 w0 a0 (Plus D e.i) (t2 ++ e :: t1) μ w' (a.put e.o.dst v') := by
  have hnt : ∀ b, ¬ Touch e t1 b := fun b ⟨V, V', lo, h, _⟩ => by rw [hv] at h; cases h
  have hpost : e.post.hp = e.pre.hp := by
    have hh := T.ok.how
    unfold HowOK at hh
    rw [hv] at hh
    exact hh.1
  have back : ∀ b o n, GL (Plus D e.i) s0.hp (t2 ++ e :: t1) b o n → GL D s0.hp (t2 ++ e :: t1) b o n := fun b o n h => by
    rcases GL_upd T.new1 T.ne T.new2 h with ⟨ht, _⟩ | ⟨h, _⟩
    · exact absurd ht (hnt b)
    · exact h
  refine ⟨?_, ?_, ?_, W.base, Nat.le_trans W.sz hs, ?_, ?_, ?_, ?_, ?_, W.wk.trans hwk⟩
  · intro b o n hg
    obtain ⟨⟨l, o', k1, k2, k3⟩, wf⟩ := W.live b o n (back b o n hg)
    exact ⟨⟨l, o', k1, by rw [hkeep _ (Array.getElem?_eq_some_iff.1 k2).1]; exact k2, k3⟩, wf⟩
  · intro b1 b2 o1 o2 n1 n2 l1 l2 g1 g2
    exact W.inj b1 b2 o1 o2 n1 n2 l1 l2 (back _ _ _ g1) (back _ _ _ g2)
  · intro b hb hall
    exact W.none b hb fun f hfm hfd => hall f hfm (.inl hfd)
  · intro r hr hn
    rw [hkeep r (Nat.lt_of_lt_of_le hr W.sz)]; exact W.keep r hr hn
  · intro b o n l hg
    exact W.img b o n l (back _ _ _ hg)
  · have := W.size
    cases hd : e.o.dst <;> simp [Act.put, this]
  · intro x v n hx hk
    rcases KL_upd T.new1 T.ne T.new2 T.dst2 hk with ⟨hd, rfl, rfl⟩ | ⟨hkl, hd⟩
    · obtain ⟨_, q2, _, _, q5⟩ := putO_more T.ok.put
      have hxn : x < s0.ntm := by
        rcases q5 with ⟨h, _⟩ | ⟨y, h, h2, _⟩
        · rw [h] at hd; cases hd
        · rw [h] at hd; cases hd
          have h2 : x < e.pre.ntm := h2
          rw [T.ok.pre, (T.tr1.grown T.cap).ntm] at h2
          exact h2
      refine ⟨v', ?_, hvr.mono (μ.cut_le _), μ.cut e.pre.hp.nx, v', by rw [hpost]; exact low_cut _ _, hvr⟩
      simp [Act.put, hd, W.size, hxn]
    · obtain ⟨u, k1, k2, k3⟩ := W.tm x v n hx hkl
      refine ⟨u, ?_, k2, k3⟩
      cases hq : e.o.dst with
      | none => simpa [Act.put] using k1
      | some y =>
        have : y ≠ x := fun h => hd (by rw [hq, h])
        simp [Act.put, Array.getElem?_setIfInBounds_ne this, k1]
  · cases hd : e.o.dst <;> simp [Act.put, W.df]

end Turn
end
end Go.Ev

/-! Drawn regions, 4: an entry's turn at the machine. -/
namespace Go.Ev
open Go

section
variable {P : Program} {ng : Nat} {sm : Sums} {rec : Tk → Out}

theorem lkMask_bit : ∀ {l : List Tmp} {t : Tmp}, t ∈ l → Nat.testBit (lkMask l) t = true
  | x :: xs, t, h => by
    unfold lkMask
    show Nat.testBit (2 ^ x ||| lkMask xs) t = true
    rw [Nat.testBit_or]
    rcases List.mem_cons.1 h with rfl | h
    · simp
    · simp [lkMask_bit h]

theorem wantedA_ok' {ops : Array Oper} {μ : Mu} {tm : T Value} {tmps : Array Value} {o : Oper} (h : ∀ d v, d ∈ o.looksAt ops → d < 2 ^ TD → T.get TD tm d = some v → ∃ v', tmps[d]? = some v' ∧ VR μ v v') {b : Bool} (e : wantedA ops tm o = some b) : Region.wanted o (yielded ops tmps) = b := by
  unfold wantedA at e
  unfold Region.wanted
  split at e
  · cases e; rename_i hg; rw [hg]
  · rename_i j want hg
    rw [hg]
    simp only
    split at e
    · rename_i g hj
      split at e
      · rename_i d hd
        have hmem : d ∈ o.looksAt ops := by simp [Oper.looksAt, hg, hj, hd]
        split at e
        · rename_i hb
          have hb : d < 2 ^ TD := by simpa [Nat.blt_eq] using hb
          split at e
          · rename_i b' ht
            cases e
            obtain ⟨v', h1, h2⟩ := h d _ hmem hb ht
            rw [h2.bool_inv] at h1
            simp [yielded, hj, hd, h1]
          · rename_i vs ht
            cases e
            obtain ⟨v', h1, h2⟩ := h d _ hmem hb ht
            cases h2 with
            | tuple => simp [yielded, hj, hd, h1]
          · cases e
        · cases e
      · rename_i hd
        cases e
        simp [yielded, hj, hd]
    · rename_i hj
      cases e
      simp [yielded, hj]

theorem not_defer {ρ : Operand → Value} {o : Oper} {w : World} {r : Result Next} (h1 : (execOp ρ o).run P w = r) (h2 : ∀ d w', r ≠ .ok (.defer d) w') (h3 : ∀ x w', r ≠ .halt x w') : ∀ c, o.op ≠ .defer c := by
  intro c hc
  obtain ⟨dst, op, type, pos, after, guard⟩ := o
  simp only at hc
  subst hc
  simp only [execOp, Sem.run_bind] at h1
  cases hres : (resolve ρ c type).run P w with
  | ok d w' => rw [hres] at h1; exact h2 d w' h1.symm
  | halt x w' => rw [hres] at h1; exact h3 x w' h1.symm

theorem valRes_mem : ∀ {L : List Res} {l : List (Value × Hp)}, valRes L = some l → ∀ r ∈ L, ∃ v h md, r = .ret v h md ∧ (v, h) ∈ l
  | .ret v h md :: rs, l, e, r, hr => by
    unfold valRes at e
    split at e
    · rename_i l' hl
      cases e
      rcases List.mem_cons.1 hr with rfl | hr
      · exact ⟨v, h, md, rfl, List.mem_cons_self⟩
      · obtain ⟨v2, h2, md2, a, b⟩ := valRes_mem hl r hr
        exact ⟨v2, h2, md2, a, List.mem_cons_of_mem _ b⟩
    · cases e
  | .pan .. :: _, _, e, _, _ => by cases e
  | .out .. :: _, _, e, _, _ => by cases e

theorem valAll_mem : ∀ {L : List R1} {l : List (Value × Hp)}, valAll sm rec L = some l → ∀ q ∈ L, ∃ l1, valOne sm rec q = some l1 ∧ ∀ p ∈ l1, p ∈ l
  | q :: qs, l, e, r, hr => by
    unfold valAll at e
    split at e
    · rename_i a b ha hb
      cases e
      rcases List.mem_cons.1 hr with rfl | hr
      · exact ⟨a, ha, fun p hp => List.mem_append_left _ hp⟩
      · obtain ⟨l1, h1, h2⟩ := valAll_mem hb r hr
        exact ⟨l1, h1, fun p hp => List.mem_append_right _ (h2 p hp)⟩
    · cases e

/-- An operation at the heap, at the machine. -/
theorem valOp_runs (hs : SumsOK P ng sm) (hr : RecOK P ng rec) {ρ : Operand → Option Value} {o : Oper} {V : Hp} {vals : List (Value × Hp)} (e : valOp P sm rec ρ o V = some vals)
    {μ μk : Mu} {w : World} {k : Kd} {b : Frame} {a : Act} {K : List Item} {cs : List Frame} {ops : Array Oper} {i : Nat} {rest : List Nat} (ho : OKm P ng μ V w) (hk : KdR μk k b) (hρ : ER μ ρ a.eval) (hoi : ops[i]? = some o) (hw : Region.wanted o (yielded ops a.tmps) = true) :
    ∃ v V' μ' w' v', (v, V') ∈ vals ∧ Steps P (lone (b.atR a (.inRegion ops (i :: rest) :: K)) cs w) (lone (b.atR (a.put o.dst v') (.inRegion ops rest :: K)) cs w') ∧ WR P μ' V' w' ∧ Fr μ V w μ' V' w' ∧ VR μ' v v' := by
  unfold valOp at e
  split at e
  · rename_i L hL
    obtain ⟨q, hq, hok⟩ := aop_ok ho.wr hρ hL (fun q _ => ho.fresh _)
    obtain ⟨l1, hl1, hsub⟩ := valAll_mem e q hq
    have sem : ∀ {r : Result Next}, (execOp a.eval o).run P w = r → (∀ c, o.op ≠ .defer c) → (o.semAt b.roundOf a.eval).run P w = r := fun h1 h2 => by rw [hk.semAt _ _ (.inl h2)]; exact h1
    cases q with
    | val v h' =>
      simp only [valOne, Option.some.injEq] at hl1
      subst hl1
      obtain ⟨μ', n, v', w', hrun, hn, hv, hwr, hf⟩ := hok
      have hm := hsub _ (List.mem_singleton.2 rfl)
      rcases hn with rfl | ⟨rfl, rfl⟩
      · exact ⟨v, h', μ', w', v', hm, .one (op_value hoi hw (sem hrun (not_defer hrun (by simp) (by simp)))), hwr, hf, hv⟩
      · exact ⟨v, h', μ', w', undef, hm, .one (op_skip hoi hw (sem hrun (not_defer hrun (by simp) (by simp)))), hwr, hf, hv⟩
    | ent f args h' =>
      simp only [valOne] at hl1
      split at hl1
      · rename_i Lc hLc
        obtain ⟨rfl, _, args', hrun, hargs⟩ := hok
        have hstep := op_enter (b := b) (K := K) (cs := cs) (rest := rest) hoi hw (sem hrun (not_defer hrun (by simp) (by simp)))
        obtain ⟨r, μ1, w1, u1, e1, fr, hm, hd, hsteps, hk1, hfn, hgo⟩ := doCall_ok hs hr hLc μ w args'.toList (b.atR a (.inRegion ops (i :: rest) :: K) :: cs) .run ho hargs (by simp) (by simp)
        rw [setMd_false, setMd_false] at hsteps
        simp only [Array.toArray_toList] at hsteps
        obtain ⟨v, h2, md, rfl, hmem⟩ := valRes_mem hl1 r hm
        cases hd with
        | ret ho1 hf1 hv _ =>
          have hl : fr.leaving P w1 (.returned _) := ⟨hgo.1, hgo.2.1, hk1, hgo.2.2⟩
          have hst2 := step_leave_returned (c := b.atR a (.inRegion ops (i :: rest) :: K)) (cs := cs) hl
          rw [finish_op hoi] at hst2
          exact ⟨v, h2, μ1, w1, _, hsub _ hmem, .head hstep (hsteps.trans (.one hst2)), ho1.wr, hf1, hv⟩
      · cases hl1
    | rnd l fn tm ntm as bd h' =>
      simp only [valOne] at hl1
      split at hl1
      · rename_i Lc hLc
        obtain ⟨rfl, x, tmps, hx, hx0, hrun, ht⟩ := hok
        have hstep := op_round (b := b) (K := K) (cs := cs) (rest := rest) hoi hw (sem hrun (not_defer hrun (by simp) (by simp)))
        have hro : RoundOK P ng l fn tm ntm as bd h' Lc := hr _ _ hLc
        obtain ⟨v, h2, md, μ', w', v', hm, ho1, hf1, hv, hsteps⟩ := hro μ w x tmps (b.atR a (.inRegion ops (i :: rest) :: K)) cs ho hx hx0 ht
        obtain ⟨v2, h3, md2, he, hmem⟩ := valRes_mem hl1 _ hm
        cases he
        rw [finish_op hoi] at hsteps
        exact ⟨v, h2, μ', w', v', hsub _ hmem, .head hstep hsteps, ho1.wr, hf1, hv⟩
      · cases hl1
    | pan v h' => cases hl1
    | dfr d h' => cases hl1
    | rcv h' => cases hl1
  · cases e

theorem emptyOK (μ : Mu) (w : World) : WR P μ emptyHp w := by
  have hn : ∀ b, emptyHp.get b = none := fun b => by
    unfold Hp.get
    cases hq : Nat.blt b emptyHp.nx with
    | false => rfl
    | true => rw [Nat.blt_eq] at hq; exact absurd hq (Nat.not_lt_zero _)
  refine ⟨fun b o h _ => ?_, fun b1 b2 l1 l2 ⟨o, h, _⟩ => ?_, Nat.zero_le _⟩
  · rw [hn b] at h; cases h
  · rw [hn b1] at h; cases h

/-- An operation that asks nothing of the heap. -/
theorem pureOp_runs {ρ : Operand → Option Value} {o : Oper} {v : Value} (e : pureOp P ρ o = some v)
    {μ μk : Mu} {w : World} {k : Kd} {b : Frame} {a : Act} {K : List Item} {cs : List Frame} {ops : Array Oper} {i : Nat} {rest : List Nat} (hk : KdR μk k b) (hρ : ER μ ρ a.eval) (hoi : ops[i]? = some o) (hw : Region.wanted o (yielded ops a.tmps) = true) :
    ∃ w' v', Steps P (lone (b.atR a (.inRegion ops (i :: rest) :: K)) cs w) (lone (b.atR (a.put o.dst v') (.inRegion ops rest :: K)) cs w') ∧ w.heap.size ≤ w'.heap.size ∧ (∀ r, r < w.heap.size → w'.heap[r]? = w.heap[r]?) ∧ VR μ v v' ∧ WK w w' := by
  unfold pureOp at e
  split at e
  · rename_i v0 h0 hL
    split at e
    · rename_i hz
      cases e
      obtain ⟨q, hq, hok⟩ := aop_ok (emptyOK (P := P) μ w) hρ hL (fun q hq b h1 h2 => by
        simp only [List.mem_singleton] at hq
        subst hq
        have : b < h0.nx := h2
        omega)
      simp only [List.mem_singleton] at hq
      subst hq
      obtain ⟨μ', n, v', w', hrun, hn, hv, hwr, hf⟩ := hok
      have hmu : μ' = μ := funext fun b => hf.out b (.inr (by omega))
      subst hmu
      have hkeep : ∀ r, r < w.heap.size → w'.heap[r]? = w.heap[r]? := fun r hr => hf.keep r hr fun b l ⟨o, h, _⟩ => by
        have := Hp.get_lt h
        exact absurd this (Nat.not_lt_zero _)
      have sem : ∀ {r : Result Next}, (execOp a.eval o).run P w = r → (∀ c, o.op ≠ .defer c) → (o.semAt b.roundOf a.eval).run P w = r := fun h1 h2 => by rw [hk.semAt _ _ (.inl h2)]; exact h1
      rcases hn with rfl | ⟨rfl, rfl⟩
      · exact ⟨w', v', .one (op_value hoi hw (sem hrun (not_defer hrun (by simp) (by simp)))), hf.sz, hkeep, hv, hf.wk⟩
      · exact ⟨w', undef, .one (op_skip hoi hw (sem hrun (not_defer hrun (by simp) (by simp)))), hf.sz, hkeep, hv, hf.wk⟩
    · cases e
  · cases e

variable {ops : Array Oper} {s0 : St} {μ0 : Mu} {w0 : World} {a0 : Act} {D : Nat → Prop} {t2 t1 : List Ent} {e : Ent} {μ : Mu} {w : World} {a : Act}

theorem Turn.wanted (T : Turn P ng sm rec ops s0 D t2 e t1) (W : DW P s0 μ0 w0 a0 D (t2 ++ e :: t1) μ w a) {c : Bool} (h : wantedA ops e.pre.tm e.o = some c) : Region.wanted e.o (yielded ops a.tmps) = c := by
  refine wantedA_ok' (μ := μ) (fun d v hd hx hg => ?_) h
  obtain ⟨n, _, hk⟩ := T.seenT hx (by rw [T.ok.lk]; exact lkMask_bit hd) hg
  obtain ⟨v', h1, h2, _⟩ := W.tm d v n hx hk
  exact ⟨v', h1, h2⟩

/-- An entry's turn. -/
theorem Turn.run (T : Turn P ng sm rec ops s0 D t2 e t1) (W : DW P s0 μ0 w0 a0 D (t2 ++ e :: t1) μ w a) (hs : SumsOK P ng sm) (hr : RecOK P ng rec) (hlow : Low μ0 s0.hp.nx) (hg : GlR μ0 ng) (hpin : PinR P μ0 s0.hp w0) {μk : Mu} {k : Kd} {b : Frame} (hk : KdR μk k b) {K : List Item} {cs : List Frame} {rest : List Nat}
    (hone : e.hv = none ∨ e.one = true) :
    ∃ μ' w' v', Steps P (lone (b.atR a (.inRegion ops (e.i :: rest) :: K)) cs w) (lone (b.atR (a.put e.o.dst v') (.inRegion ops rest :: K)) cs w') ∧ DW P s0 μ0 w0 a0 (Plus D e.i) (t2 ++ e :: t1) μ' w' (a.put e.o.dst v') := by
  have hh := T.ok.how
  unfold HowOK at hh
  split at hh
  · rename_i hv
    rcases hh.2 with ⟨hw, hu⟩ | ⟨hw, hp⟩
    · have hw := T.wanted W hw
      have hstep := stepR_op_skip (P := P) (b := b) (a := a) (k := K) (cs := cs) (w := w) (ops := ops) (i := e.i) (rest := rest) (by simp [T.ok.op, hw])
      simp only [T.ok.op, Option.bind_some] at hstep
      exact ⟨μ, w, undef, .one hstep, T.step_free W hv (Nat.le_refl _) (fun _ _ => rfl) (by rw [hu]; exact gr_refl 2 _ rfl) (WK.refl _)⟩
    · have hw := T.wanted W hw
      obtain ⟨w', v', h1, h2, h3, h4, h5⟩ := pureOp_runs (K := K) (cs := cs) (rest := rest) hp hk (T.env W hlow hg) T.ok.op hw
      exact ⟨μ, w', v', h1, T.step_free W hv h2 h3 h4 h5⟩
  · rename_i V V' lo hv
    obtain ⟨hw, _, ⟨vals, hvals, _, h1⟩, _⟩ := hh
    have h1 := h1 (hone.resolve_left (by rw [hv]; simp))
    subst h1
    have hw := T.wanted W hw
    obtain ⟨v, V2, μ', w', v', hm, hst, hwr, hf, hvr⟩ := valOp_runs (K := K) (cs := cs) (rest := rest) hs hr hvals (T.okm W hlow hg hpin hv) hk (T.env W hlow hg) T.ok.op hw
    simp only [List.mem_singleton, Prod.mk.injEq] at hm
    obtain ⟨rfl, rfl⟩ := hm
    exact ⟨_, w', v', hst, T.step_heap W hv hwr hf hvr⟩

end
end Go.Ev
