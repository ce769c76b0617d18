/- Regions that draw, with loads beside calls: the loads read blocks that the calls leave alone. Seat-independent. -/
import Derived.Test.YbyabwGreatDraw
import Derived.Test.YbyabwGreatMem
namespace Go.Proofs.YbyabwGreat.Dr
open Go Go.RowKit

def isCells (w : World) (b : Nat) : Prop := ∃ c e f, w.heap[b]? = some (.cells c e f)

theorem isCells_of {w : World} {a : Addr} {v : Value} (h : w.cell? a = some v) : isCells w a.block := by
  unfold World.cell? at h
  split at h
  · rename_i c e f hh; exact ⟨c, e, f, hh⟩
  · cases h

def onlyB (b : Nat) {α : Type} : Sem α → Prop
  | .pure _ => True
  | .halt _ => True
  | .program k => ∀ p, onlyB b (k p)
  | .load _ a k => a.block = b ∧ a.spot = none ∧ ∀ v, onlyB b (k v)
  | _ => False

theorem onlyB_run {P : Program} {α : Type} {b : Nat} {w w' : World} (hb : w'.heap[b]? = w.heap[b]?) (hc : isCells w b) (s : Sem α) : onlyB b s →
    s.run P w' = match s.run P w with | .ok v _ => .ok v w' | .halt h _ => .halt h w' := by
  induction s with
  | pure a => intro _; rfl
  | halt h => intro _; rfl
  | program k ih => intro h; exact ih P (h P)
  | load m a k ih =>
    intro h
    obtain ⟨h1, h2, h3⟩ := h
    have hcell : w'.cell? a = w.cell? a := by
      unfold World.cell?
      rw [h1, hb]
    simp only [Sem.run, hcell]
    cases hx : w.cell? a with
    | some v => exact ih v (h3 v)
    | none =>
      obtain ⟨c, e, f, hh⟩ := hc
      have e1 : w'.farLoad P a (m == .atomic) = w.farLoad P a (m == .atomic) := by
        unfold World.farLoad World.noCell
        rw [h1, hb, hh]
      have e2 : ∃ x, w.farLoad P a (m == .atomic) = .error x := by
        unfold World.farLoad
        rw [h1, hh]
        exact ⟨_, rfl⟩
      obtain ⟨x, e2⟩ := e2
      simp only [e1, e2]
  | _ => intro h; exact h.elim

theorem onlyB_bind {α β : Type} {b : Nat} (s : Sem α) (f : α → Sem β) (hf : ∀ a, onlyB b (f a)) : onlyB b s → onlyB b (s.bind f) := by
  induction s with
  | pure a => intro _; exact hf a
  | halt h => intro _; trivial
  | program k ih => intro h p; exact ih p (h p)
  | load m a k ih => intro h; exact ⟨h.1, h.2.1, fun v => ih v (h.2.2 v)⟩
  | _ => intro h; exact h.elim

theorem onlyB_underlying (b : Nat) (t : TypeId) : onlyB b (underlying t) := by
  intro p
  show onlyB b (match p.underlying t with | some d => (pure d : Sem TypeDesc) | none => stuck "no such type")
  split <;> trivial
theorem onlyB_sizeOf (b : Nat) (t : TypeId) : onlyB b (sizeOf t) := by
  intro p
  show onlyB b (Sem.bind (match p.info? t with | some i => (pure i : Sem TypeInfo) | none => stuck "no such type") fun i => .pure i.size)
  split <;> trivial
theorem add_block (a : Addr) (n : Nat) (h : a.spot = none) : (a.add n).block = a.block ∧ (a.add n).spot = none := by
  unfold Addr.add
  split
  · exact ⟨rfl, h⟩
  · exact ⟨rfl, rfl⟩
theorem onlyB_loadCellsFrom (a : Addr) (h : a.spot = none) : ∀ (n i : Nat) (acc : Array Value), onlyB a.block (loadCellsFrom a i n acc)
  | 0, _, _ => trivial
  | n + 1, i, acc => ⟨(add_block a i h).1, (add_block a i h).2, fun v => onlyB_loadCellsFrom a h n (i + 1) (acc.push v)⟩
theorem onlyB_loadVar (t : TypeId) (a : Addr) (h : a.spot = none) : onlyB a.block (loadVar t a) := by
  unfold loadVar
  refine onlyB_bind _ _ (fun b => ?_) ?_
  · cases b
    · exact ⟨rfl, h, fun v => trivial⟩
    · exact onlyB_bind _ _ (fun n => onlyB_bind _ _ (fun _ => trivial) (onlyB_loadCellsFrom a h _ _ _)) (onlyB_sizeOf _ t)
  · exact onlyB_bind _ _ (fun d => by split <;> trivial) (onlyB_underlying _ t)

def loadAddr (o : Oper) (a : Act) : Option Addr :=
  match o.op with
  | .load _ x => match a.eval x with
    | .pointer (some p) => some p
    | _ => none
  | _ => none

section
variable {P : Program} {ops : Array Oper}

theorem load_stable {o : Oper} {a : Act} (hl : loadOp o.op = true) {b off : Nat} (ha : loadAddr o a = some ⟨b, off, none⟩) {w w' : World} (hc : isCells w b) (hb : w'.heap[b]? = w.heap[b]?) {v : Value}
    (h : (execOp a.eval o).run P w = .ok (.value v) w) : (execOp a.eval o).run P w' = .ok (.value v) w' := by
  obtain ⟨dst, op, type, pos, after, guard⟩ := o
  cases op <;> simp [loadOp] at hl
  rename_i t x
  simp only [loadAddr] at ha
  cases hx : a.eval x with
  | pointer p =>
    rw [hx] at ha
    cases p with
    | none => simp at ha
    | some q =>
      simp at ha
      subst ha
      have e : execOp a.eval ⟨dst, .load t x, type, pos, after, guard⟩ = (loadVar t ⟨b, off, none⟩).bind fun v => .pure (.value v) := by
        simp only [execOp, hx]
        rfl
      rw [e] at h ⊢
      have ho : onlyB b ((loadVar t ⟨b, off, none⟩).bind fun v => (.pure (.value v) : Sem Next)) := onlyB_bind _ _ (fun _ => trivial) (onlyB_loadVar t ⟨b, off, none⟩ rfl)
      rw [onlyB_run (P := P) hb hc _ ho, h]
  | _ => rw [hx] at ha; simp at ha

/-- What is asked of the loads that are held, at the end. -/
def heldOK (ops : Array Oper) (S : Nat → Prop) (a : Act) (w : World) : List Nat → Prop
  | [] => True
  | i :: l => (match ops[i]? with
    | some o => Region.wanted o (yielded ops a.tmps) = true → ∃ b off, loadAddr o a = some ⟨b, off, none⟩ ∧ S b ∧ isCells w b
    | none => True) ∧ heldOK ops S a w l

theorem heldOK_mem {S : Nat → Prop} {a : Act} {w : World} {i : Nat} {o : Oper} (ho : ops[i]? = some o) : ∀ {l : List Nat}, heldOK ops S a w l → i ∈ l → Region.wanted o (yielded ops a.tmps) = true → ∃ b off, loadAddr o a = some ⟨b, off, none⟩ ∧ S b ∧ isCells w b
  | [], _, h => by simp at h
  | j :: l, h, hm => by
    rcases List.mem_cons.1 hm with rfl | hm
    · have := h.1
      rw [ho] at this
      exact this
    · exact heldOK_mem ho h.2 hm

/-- The walk, operation by operation; behind each that acts: the blocks of S are as they were. -/
def wpH (P : Program) (ops : Array Oper) (S : Nat → Prop) (hl : List Nat) (K : Act → World → Prop) : List Oper → Act → World → Prop
  | [], a, w => (endB ops a = true ∧ heldOK ops S a w hl) ∧ K a w
  | o :: l, a, w =>
    if Region.wanted o (yielded ops a.tmps) then
      if quietB o then o.wp P a w (wpH P ops S hl K l) NoQ else o.wp P a w (fun a' w' => Kp S w w' ∧ wpH P ops S hl K l a' w') NoQ
    else wpH P ops S hl K l (a.put o.dst undef) w

theorem Kp.refl (S : Nat → Prop) (w : World) : Kp S w w := fun _ _ => rfl
theorem Kp.trans {S : Nat → Prop} {a b c : World} (h : Kp S a b) (k : Kp S b c) : Kp S a c := fun x hx => (k x hx).trans (h x hx)

theorem dsts_cons {o : Oper} {l : List Oper} {t : Tmp} (ht : t ∉ dsts (o :: l)) : o.dst ≠ some t ∧ t ∉ dsts l := by
  unfold dsts at ht
  rw [List.filterMap_cons] at ht
  split at ht
  · rename_i e; exact ⟨by rw [e]; simp, ht⟩
  · rename_i d e
    rw [List.mem_cons] at ht
    exact ⟨by rw [e]; simp only [ne_eq, Option.some.injEq]; exact fun x => ht (.inl x.symm), fun x => ht (.inr x)⟩

/-- The walk comes to an end, slots that it does not fill stay, and so do the blocks of S. -/
theorem wpH_some {S : Nat → Prop} {hl : List Nat} {K : Act → World → Prop} : ∀ (l : List Oper), (∀ o ∈ l, o ∈ ops.toList) → entryB P ops l = true → ∀ (a : Act) (w : World), wpH P ops S hl K l a w →
    ∃ a' w', endB ops a' = true ∧ heldOK ops S a' w' hl ∧ (∀ t, t ∉ dsts l → a'.tmps[t]? = a.tmps[t]?) ∧ Kp S w w'
  | [], _, _, a, w, h => ⟨a, w, h.1.1, h.1.2, fun _ _ => rfl, Kp.refl S w⟩
  | o :: l, hm, hE, a, w, h => by
    simp only [entryB, Bool.and_eq_true] at hE
    obtain ⟨⟨hn, hf⟩, hE'⟩ := hE
    have ih := wpH_some (S := S) (hl := hl) (K := K) l (fun x hx => hm x (by simp [hx])) hE'
    unfold wpH at h
    split at h
    · rename_i hw
      split at h
      · rename_i hq
        cases hp : pureOp o.op with
        | true =>
          obtain ⟨a1, w1, u, ha, h1⟩ := wp_some h
          obtain ⟨a2, w2, he2, _, hs2, _⟩ := ih a1 w1 h1
          have hsame : ∀ t ∈ needs ops o, a2.tmps[t]? = a.tmps[t]? := by
            intro t ht
            have := dsts_cons (needs_stay hn t ht)
            rw [hs2 t this.2, ha, put_getElem this.1]
          have hcb : condB o a = true := by
            have := (List.all_eq_true.1 he2) o (hm o (by simp))
            rw [wanted_same o hsame, cond_same o hp hsame, hw, hp] at this
            simpa using this
          obtain ⟨v, _, hK⟩ := pure_all hp (by simpa [hp] using hf) hcb h
          obtain ⟨a3, w3, he3, hh3, hs3, hk3⟩ := ih _ _ hK
          refine ⟨a3, w3, he3, hh3, fun t ht => ?_, hk3⟩
          have := dsts_cons ht
          rw [hs3 t this.2, put_getElem this.1]
        | false =>
          have hld : loadOp o.op = true := by simpa [quietB, hp] using hq
          obtain ⟨v, _, hK⟩ := load_here hld h
          obtain ⟨a3, w3, he3, hh3, hs3, hk3⟩ := ih _ _ hK
          refine ⟨a3, w3, he3, hh3, fun t ht => ?_, hk3⟩
          have := dsts_cons ht
          rw [hs3 t this.2, put_getElem this.1]
      · obtain ⟨a1, w1, u, ha, hk1, h1⟩ := wp_some h
        obtain ⟨a3, w3, he3, hh3, hs3, hk3⟩ := ih _ _ h1
        refine ⟨a3, w3, he3, hh3, fun t ht => ?_, hk1.trans hk3⟩
        have := dsts_cons ht
        rw [hs3 t this.2, ha, put_getElem this.1]
    · obtain ⟨a3, w3, he3, hh3, hs3, hk3⟩ := ih _ _ h
      refine ⟨a3, w3, he3, hh3, fun t ht => ?_, hk3⟩
      have := dsts_cons ht
      rw [hs3 t this.2, put_getElem this.1]

theorem loadAddr_same {o : Oper} (hl : loadOp o.op = true) {a a' : Act} (h : ∀ t ∈ needs ops o, a'.tmps[t]? = a.tmps[t]?) : loadAddr o a' = loadAddr o a := by
  obtain ⟨dst, op, type, pos, after, guard⟩ := o
  cases op <;> simp [loadOp] at hl
  rename_i t x
  simp only [loadAddr]
  rw [eval_same (a := a) (a' := a') (x := x) fun q hq => h q (by subst hq; simp [needs])]

theorem chain_of_wpH {S : Nat → Prop} {hl : List Nat} {K : Act → World → Prop} : ∀ (l : List Oper) (k : Nat), (∀ j, l[j]? = ops[k + j]?) → entryB P ops l = true → ∀ (a : Act) (w : World),
    wpH P ops S hl K l a w → chain P ops S (fun i => hl.contains i) K (List.range' k l.length) a w
  | [], k, _, _, a, w, h => h.2
  | o :: l, k, hlk, hE, a, w, h => by
    have h0 : ops[k]? = some o := by simpa using (hlk 0).symm
    have hmem : ∀ x ∈ o :: l, x ∈ ops.toList := by
      intro x hx
      obtain ⟨j, hj⟩ := List.getElem?_of_mem hx
      rw [hlk j] at hj
      exact List.mem_of_getElem? (l := ops.toList) (i := k + j) (by simpa using hj)
    obtain ⟨ae, we, hee, hhe, hse, hke⟩ := wpH_some (o :: l) hmem hE a w h
    have hE0 := hE
    simp only [entryB, Bool.and_eq_true] at hE
    obtain ⟨⟨hn, hf⟩, hE'⟩ := hE
    have hsame : ∀ t ∈ needs ops o, ae.tmps[t]? = a.tmps[t]? := fun t ht => hse t (needs_stay hn t ht)
    have ih := chain_of_wpH (S := S) (hl := hl) (K := K) l (k + 1) (fun j => by have := hlk (j + 1); simpa [Nat.add_assoc, Nat.add_comm 1 j] using this) hE'
    simp only [List.length_cons, List.range'_succ, chain]
    unfold T
    simp only [h0]
    unfold wpH at h
    cases hq : quietB o with
    | true =>
      simp only [if_true]
      cases hw : Region.wanted o (yielded ops a.tmps) with
      | false =>
        simp only [hw, Bool.false_eq_true, if_false] at h
        exact ⟨undef, .inr ⟨hw, rfl⟩, ih _ _ h⟩
      | true =>
        simp only [hw, hq, if_true] at h
        cases hp : pureOp o.op with
        | true =>
          have hcb : condB o a = true := by
            have := (List.all_eq_true.1 hee) o (hmem o (by simp))
            rw [wanted_same o hsame, cond_same o hp hsame, hw, hp] at this
            simpa using this
          obtain ⟨v, hv, hK⟩ := pure_all hp (by simpa [hp] using hf) hcb h
          exact ⟨v, .inl ⟨hw, fun w' _ => hv w'⟩, ih _ _ hK⟩
        | false =>
          have hld : loadOp o.op = true := by simpa [quietB, hp] using hq
          obtain ⟨v, hv, hK⟩ := load_here hld h
          refine ⟨v, .inl ⟨hw, fun w' hR => ?_⟩, ih _ _ hK⟩
          simp only [Rof, hp, Bool.false_eq_true, if_false] at hR
          cases hc : hl.contains k with
          | false =>
            simp only [hc, Bool.false_eq_true, if_false] at hR
            rw [hR]
            exact hv
          | true =>
            simp only [hc, if_true] at hR
            obtain ⟨b, off, hb, hSb, hcell⟩ := heldOK_mem h0 hhe (by simpa using hc) (by rw [wanted_same o hsame]; exact hw)
            rw [loadAddr_same hld hsame] at hb
            have hcw : isCells w b := by
              obtain ⟨c, e, f, hh⟩ := hcell
              rw [hke b hSb] at hh
              exact ⟨c, e, f, hh⟩
            exact load_stable hld hb hcw (hR b hSb) hv
    | false =>
      simp only [Bool.false_eq_true, if_false]
      cases hw : Region.wanted o (yielded ops a.tmps) with
      | false =>
        simp only [hw, Bool.false_eq_true, if_false] at h
        exact ih _ _ h
      | true =>
        simp only [hw, hq, if_true, Bool.false_eq_true, if_false] at h ⊢
        exact Oper.wp_mono (fun a' w' h' => ⟨h'.1, ih _ _ h'.2⟩) h

/-- All checks of a region at once. -/
def okH (P : Program) (hl : List Nat) (l : List Oper) : Bool :=
  let ops := l.toArray
  let cl := Region.before ops
  P.follows .mixedOrders && certB ops cl && pairsB (fun i => hl.contains i) ops cl && entryB P ops l

/-- **A REGION THAT DRAWS, WITH LOADS BESIDE CALLS** -/
theorem region_held {id : Nat} {l : List Oper} {Q : Exit → Act → World → Prop} {a : Act} {w : World} (S : Nat → Prop) (hl : List Nat) (hok : okH P hl l = true)
    (h : wpH P l.toArray S hl (fun a' w' => Q .normal a' w') l a w.drew) : (Code.region id l.toArray true).wp P Q a w := by
  simp only [okH, Bool.and_eq_true] at hok
  obtain ⟨⟨⟨hm, hc⟩, hp⟩, hE⟩ := hok
  refine region_of_chain (K := fun a' w' => Q .normal a' w') (S := S) (held := fun i => hl.contains i) hm hc hp (fun _ _ h => h) ?_
  have := chain_of_wpH (P := P) (ops := l.toArray) (K := fun a' w' => Q .normal a' w') l 0 (by simp) hE a _ h
  rw [List.range_eq_range']
  simpa using this

/-! ### the steps of such a walk -/
section
variable {S : Nat → Prop} {hl : List Nat} {K : Act → World → Prop} {a : Act} {w : World} {l : List Oper}

/-- n operations that do not act, by the walk's own steps. -/
theorem held_quiet (q : List Oper) : (q.all quietB = true) → wpList P ops (Exit.then (wpH P ops S hl K l) NoQ) q a w → wpH P ops S hl K (q ++ l) a w := by
  induction q generalizing a w with
  | nil => intro _ h; exact h
  | cons o q ih =>
    intro hq h
    simp only [List.all_cons, Bool.and_eq_true] at hq
    have := list_cons h
    simp only [List.cons_append]
    unfold wpH
    split at this
    · rename_i hw
      rw [if_pos hw, if_pos hq.1]
      exact Oper.wp_mono (fun a w h => ih hq.2 h) this
    · rename_i hw
      rw [if_neg hw]
      exact ih hq.2 this

theorem held_q1 {o1 : Oper} (hq : [o1].all quietB = true) (h : wpList P ops (Exit.then (wpH P ops S hl K l) NoQ) [o1] a w) : wpH P ops S hl K (o1 :: l) a w := held_quiet [o1] hq h
theorem held_q2 {o1 o2 : Oper} (hq : [o1, o2].all quietB = true) (h : wpList P ops (Exit.then (wpH P ops S hl K l) NoQ) [o1, o2] a w) : wpH P ops S hl K (o1 :: o2 :: l) a w := held_quiet [o1, o2] hq h
theorem held_q3 {o1 o2 o3 : Oper} (hq : [o1, o2, o3].all quietB = true) (h : wpList P ops (Exit.then (wpH P ops S hl K l) NoQ) [o1, o2, o3] a w) : wpH P ops S hl K (o1 :: o2 :: o3 :: l) a w := held_quiet [o1, o2, o3] hq h
theorem held_q4 {o1 o2 o3 o4 : Oper} (hq : [o1, o2, o3, o4].all quietB = true) (h : wpList P ops (Exit.then (wpH P ops S hl K l) NoQ) [o1, o2, o3, o4] a w) : wpH P ops S hl K (o1 :: o2 :: o3 :: o4 :: l) a w := held_quiet [o1, o2, o3, o4] hq h
theorem held_q5 {o1 o2 o3 o4 o5 : Oper} (hq : [o1, o2, o3, o4, o5].all quietB = true) (h : wpList P ops (Exit.then (wpH P ops S hl K l) NoQ) [o1, o2, o3, o4, o5] a w) : wpH P ops S hl K (o1 :: o2 :: o3 :: o4 :: o5 :: l) a w := held_quiet [o1, o2, o3, o4, o5] hq h
theorem held_q6 {o1 o2 o3 o4 o5 o6 : Oper} (hq : [o1, o2, o3, o4, o5, o6].all quietB = true) (h : wpList P ops (Exit.then (wpH P ops S hl K l) NoQ) [o1, o2, o3, o4, o5, o6] a w) : wpH P ops S hl K (o1 :: o2 :: o3 :: o4 :: o5 :: o6 :: l) a w := held_quiet [o1, o2, o3, o4, o5, o6] hq h

/-- An operation that acts. -/
theorem held_act {o : Oper} (hq : quietB o = false) (hw : Region.wanted o (yielded ops a.tmps) = true) (h : o.wp P a w (fun a' w' => Kp S w w' ∧ wpH P ops S hl K l a' w') NoQ) : wpH P ops S hl K (o :: l) a w := by
  unfold wpH
  rw [if_pos hw, hq]
  exact h

/-- An operation whose guard says no. -/
theorem held_skip {o : Oper} (hw : Region.wanted o (yielded ops a.tmps) = false) (h : wpH P ops S hl K l (a.put o.dst undef) w) : wpH P ops S hl K (o :: l) a w := by
  unfold wpH
  rw [hw]
  exact h

theorem held_nil (he : endB ops a = true) (hh : heldOK ops S a w hl) (h : K a w) : wpH P ops S hl K [] a w := ⟨⟨he, hh⟩, h⟩
end
end

/-- Blocks below n stay where memory only grows. -/
theorem Kp_of_ext {w w' : World} {n : Nat} (h : Ext w w') (hn : n ≤ w.heap.size) : Kp (fun b => b < n) w w' := fun b hb => h.block b (by omega)

end Go.Proofs.YbyabwGreat.Dr
