/-
  Regions that draw their order, walked in the order of the text: if the operations that the edges leave unordered commute,
  the walk of the text's order serves every order. Seat-independent.
-/
import Derived.Orders
import Derived.Tactics
namespace Go.Proofs.YbyabwGreat.Dr
open Go

def NoQ : Exit → Act → World → Prop := fun _ _ _ => False

/-! ### programs of operations that do not look at the world -/

def dead {α : Type} (P : Program) : Sem α → Prop
  | .halt _ => True
  | .program k => dead P (k P)
  | .mark _ k => dead P k
  | .choose _ k => ∀ n, dead P (k n)
  | _ => False

def calm {α : Type} (P : Program) : Sem α → Prop
  | .pure _ => True
  | .halt _ => True
  | .program k => calm P (k P)
  | .mark _ k => calm P k
  | .choose _ k => ∀ n, dead P (k n)
  | _ => False

theorem dead_run {α : Type} {P : Program} (s : Sem α) : dead P s → ∀ w, ∃ h w', s.run P w = .halt h w' := by
  induction s with
  | halt h => intro _ w; exact ⟨h, w, rfl⟩
  | program k ih => intro h w; simpa [Sem.run] using ih P h w
  | mark m k ih => intro h w; simpa [Sem.run] using ih h w
  | choose q k ih =>
    intro h w
    simp only [Sem.run]
    split
    · exact ih _ (h _) _
    · exact ih _ (h _) _
  | _ => intro h; exact h.elim

theorem calm_run {α : Type} {P : Program} (s : Sem α) : calm P s → (∃ v, ∀ w, s.run P w = .ok v w) ∨ (∀ w, ∃ h w', s.run P w = .halt h w') := by
  induction s with
  | pure a => intro _; exact .inl ⟨a, fun w => rfl⟩
  | halt h => intro _; exact .inr fun w => ⟨h, w, rfl⟩
  | program k ih => intro h; simpa [Sem.run] using ih P h
  | mark m k ih => intro h; simpa [Sem.run] using ih h
  | choose q k ih =>
    intro h
    refine .inr fun w => ?_
    simp only [Sem.run]
    split
    · exact dead_run _ (h _) _
    · exact dead_run _ (h _) _
  | _ => intro h; exact h.elim

theorem dead_bind {α β : Type} {P : Program} (s : Sem α) (f : α → Sem β) : dead P s → dead P (s.bind f) := by
  induction s with
  | halt h => intro _; trivial
  | program k ih => intro h; exact ih P h
  | mark m k ih => intro h; exact ih h
  | choose q k ih => intro h n; exact ih n (h n)
  | _ => intro h; exact h.elim

theorem calm_bind {α β : Type} {P : Program} (s : Sem α) (f : α → Sem β) (hf : ∀ a, calm P (f a)) : calm P s → calm P (s.bind f) := by
  induction s with
  | pure a => intro _; exact hf a
  | halt h => intro _; trivial
  | program k ih => intro h; exact ih P h
  | mark m k ih => intro h; exact ih h
  | choose q k ih => intro h n; exact dead_bind _ _ (h n)
  | _ => intro h; exact h.elim

theorem calm_bind' {α β : Type} {P : Program} (s : Sem α) (f : α → Sem β) (hs : calm P s) (hf : ∀ a, calm P (f a)) : calm P (s >>= f) := calm_bind s f hf hs
theorem calm_pure {α : Type} {P : Program} (a : α) : calm P (pure a : Sem α) := trivial
theorem calm_stuck {α : Type} {P : Program} (s : String) : calm P (stuck s : Sem α) := trivial
theorem calm_unsupported {α : Type} {P : Program} (u : Unsupported) : calm P (unsupported u : Sem α) := trivial
theorem calm_program {P : Program} : calm P program := trivial
theorem calm_typeInfo {P : Program} (t : TypeId) : calm P (typeInfo t) := by
  refine calm_bind' _ _ calm_program fun p => ?_
  split <;> trivial
theorem calm_underlying {P : Program} (t : TypeId) : calm P (underlying t) := by
  refine calm_bind' _ _ calm_program fun p => ?_
  split <;> trivial
theorem calm_sizeOf {P : Program} (t : TypeId) : calm P (sizeOf t) := calm_bind' _ _ (calm_typeInfo t) fun _ => trivial
theorem calm_asIntOf {P : Program} (v : Value) : calm P (asIntOf v) := by unfold asIntOf; split <;> trivial
theorem calm_asBool {P : Program} (v : Value) : calm P (asBool v) := by unfold asBool; split <;> trivial
theorem dead_goPanic {α : Type} {P : Program} (v : Value) : dead P (goPanic v : Sem α) := trivial

def plainErr : RuntimeError → Bool
  | .bounds .. | .error _ | .plain _ | .nilDeref => true
  | _ => false
theorem dead_runtimePanic {α : Type} {P : Program} (e : RuntimeError) (h : plainErr e = true) : dead P (runtimePanic e : Sem α) := by
  cases e <;> simp [plainErr] at h <;> exact trivial
theorem calm_of_dead {α : Type} {P : Program} (s : Sem α) : dead P s → calm P s := by
  induction s with
  | halt h => intro _; trivial
  | program k ih => intro h; exact ih P h
  | mark m k ih => intro h; exact ih h
  | choose q k ih => intro h n; exact h n
  | _ => intro h; exact h.elim
theorem calm_boundsPanic {α : Type} {P : Program} (k : IntKind) (x y : Int) (c : BoundsCode) : calm P (boundsPanic k x y c : Sem α) := by
  unfold boundsPanic
  split
  · intro n; exact dead_runtimePanic (.bounds _ _ _ _) rfl
  · exact calm_of_dead _ (dead_runtimePanic (.bounds _ _ _ _) rfl)

/-! ### which operations do not look at the world -/

def simpleV : Value → Bool
  | .int .. | .bool _ | .string _ => true
  | _ => false
def lenV : Value → Bool
  | .slice .. | .string _ => true
  | _ => false
def ptrV : Value → Bool
  | .pointer _ => true
  | _ => false
def sliceV : Value → Bool
  | .slice .. | .string _ => true
  | _ => false

/-- Operations of kind 0: they do not look at the world (under 'condB'). -/
def pureOp : Op → Bool
  | .move _ | .assign _ | .pick .. | .fieldAddr .. | .extract .. | .nilCheck _ | .binOp .. | .indexAddr .. | .unOp .. | .slice .. => true
  | .call { callee := .builtin .len, args := _, argTypes := _ } => true
  | _ => false

/-- Operations of kind 1: loads. -/
def loadOp : Op → Bool
  | .load .. => true
  | _ => false

def condB (o : Oper) (a : Act) : Bool :=
  match o.op with
  | .binOp op _ x y _ => (match op with | .quo | .rem | .shl | .shr => false | _ => true) && simpleV (a.eval x) && simpleV (a.eval y)
  | .nilCheck x => ptrV (a.eval x)
  | .slice _ x _ _ _ => sliceV (a.eval x)
  | .call c => (c.args.toList.map a.eval).all lenV
  | _ => true

/-- What is asked of the program's types at a field's address. -/
def fieldOK (P : Program) (o : Oper) : Bool :=
  match o.op with
  | .fieldAddr s _ f =>
    match P.underlying s with
    | some (.struct fs) => match fs[f]? with
      | some g => match P.info? g.type with
        | some i => i.size != 0
        | none => false
      | none => false
    | _ => false
  | .slice t _ _ _ _ => match P.underlying t with
    | some (.slice _) | some .string => true
    | _ => false
  | .call { callee := .builtin .len, args := _, argTypes := ts } => match (ts[0]?).bind P.underlying with
    | some (.slice _) | some .string => true
    | _ => false
  | .binOp op t _ _ _ => match op with
    | .eql | .neq => match P.underlying t with
      | some (.int _) | some .bool | some .string => true
      | _ => false
    | _ => true
  | _ => true

theorem calm_value {P : Program} (s : Sem Value) (h : calm P s) : calm P (do let x ← s; pure (Next.value x) : Sem Next) :=
  calm_bind' _ _ h fun _ => trivial

theorem calm_intBin {P : Program} (op : BinOp) (t : TypeId) (k k' : IntKind) (x y : Int) : calm P (binOp op t (.int k x) (.int k' y)) := by
  have h1 : ∀ r, calm P (Op.intArith op r x y) := by intro r; unfold Op.intArith; split <;> trivial
  have h2 : calm P (Op.intDiv op k x y) := by
    unfold Op.intDiv
    split
    · exact calm_of_dead _ (dead_runtimePanic _ rfl)
    · split <;> trivial
  have h3 : calm P (Op.intBits op k x y) := by unfold Op.intBits; dsimp only; split <;> trivial
  have h4 : calm P (Op.intCmp op x y) := by unfold Op.intCmp; split <;> trivial
  have h5 : calm P (Op.shift op k x k' y) := by
    unfold Op.shift
    split
    · exact calm_of_dead _ (dead_runtimePanic _ rfl)
    · dsimp only; split <;> trivial
  unfold binOp
  cases op <;> first | exact h5 | (dsimp only; split <;> first | trivial | exact h1 _ | exact h2 | exact h3 | exact h4)

theorem calm_strBin {P : Program} (op : BinOp) (t : TypeId) (x y : ByteArray) : calm P (binOp op t (.string x) (.string y)) := by
  have h : calm P (Op.stringOp op x y) := by
    unfold Op.stringOp
    dsimp only
    split
    · split <;> trivial
    all_goals trivial
  unfold binOp
  cases op <;> exact h

theorem calm_equalIn {P : Program} (d : Nat) (t : TypeId) (x y : Value) (hx : simpleV x = true) (hy : simpleV y = true) : calm P (Op.equalIn d t x y) := by
  cases d with
  | zero => trivial
  | succ d =>
    unfold Op.equalIn
    refine calm_bind' _ _ (calm_underlying t) fun u => ?_
    cases x <;> simp [simpleV] at hx <;> cases y <;> simp [simpleV] at hy <;> cases u <;> first
      | trivial
      | (dsimp only; split <;> trivial)

theorem calm_binOp {P : Program} (op : BinOp) (t : TypeId) (x y : Value) (hx : simpleV x = true) (hy : simpleV y = true) : calm P (binOp op t x y) := by
  have he : calm P (do pure (.bool (← Op.equal t x y)) : Sem Value) := calm_bind' _ _ (calm_equalIn _ _ _ _ hx hy) fun _ => trivial
  have hn : calm P (do pure (.bool (!(← Op.equal t x y))) : Sem Value) := calm_bind' _ _ (calm_equalIn _ _ _ _ hx hy) fun _ => trivial
  cases x with
  | int k n =>
    cases y with
    | int k' m => exact calm_intBin ..
    | _ => simp [simpleV] at hy <;> (unfold binOp; cases op <;> first | exact he | exact hn | trivial)
  | string s =>
    cases y with
    | string s' => exact calm_strBin ..
    | _ => simp [simpleV] at hy <;> (unfold binOp; cases op <;> first | exact he | exact hn | trivial)
  | bool b =>
    cases y <;> simp [simpleV] at hy <;> (unfold binOp; cases op <;> first | exact he | exact hn | trivial)
  | _ => simp [simpleV] at hx

theorem calm_eqGuard {P : Program} (op : BinOp) (t : TypeId) (p q : Operand) (x y : Value) (hx : simpleV x = true) (hy : simpleV y = true) : calm P (eqGuard op t p q x y) := by
  unfold eqGuard
  cases x <;> simp [simpleV] at hx <;> cases y <;> simp [simpleV] at hy <;> cases op <;> trivial

theorem calm_sliceBound {P : Program} (x : Value) (y : Nat) (c : BoundsCode) : calm P (Instr.sliceBound x y c) := by
  unfold Instr.sliceBound
  refine calm_bind' _ _ (calm_asIntOf x) fun r => ?_
  obtain ⟨k, i⟩ := r
  dsimp only
  split
  · trivial
  · exact calm_boundsPanic ..

theorem calm_sliceBounds {P : Program} (b : Bool) (n m : Nat) (x y z : Option Value) : calm P (Instr.sliceBounds b n m x y z) := by
  unfold Instr.sliceBounds
  cases z <;> cases y <;> cases x <;> simp only [Bind.bind, Sem.bind, Pure.pure, stuck]
  all_goals first
    | exact trivial
    | exact calm_bind _ _ (fun _ => trivial) (calm_sliceBound _ _ _)
    | exact calm_bind _ _ (fun _ => calm_bind _ _ (fun _ => trivial) (calm_sliceBound _ _ _)) (calm_sliceBound _ _ _)
    | exact calm_bind _ _ (fun _ => calm_bind _ _ (fun _ => calm_bind _ _ (fun _ => trivial) (calm_sliceBound _ _ _)) (calm_sliceBound _ _ _)) (calm_sliceBound _ _ _)

theorem calm_op {P : Program} (o : Oper) (a : Act) (hp : pureOp o.op = true) (hf : fieldOK P o = true) (hc : condB o a = true) : calm P (execOp a.eval o) := by
  obtain ⟨dst, op, type, pos, after, guard⟩ := o
  cases op <;> (try (simp [pureOp] at hp; done))
  case move x => trivial
  case assign x => trivial
  case pick c x y => exact calm_bind' _ _ (calm_asBool _) fun _ => trivial
  case fieldAddr s x f =>
    refine calm_value _ ?_
    simp only [fieldOK] at hf
    unfold Instr.fieldAt
    cases hu : P.underlying s with
    | none => simp [hu] at hf
    | some d =>
      cases d <;> simp [hu] at hf
      rename_i fs
      cases hg : fs[f]? with
      | none => simp [hg] at hf
      | some g =>
        simp [hg] at hf
        cases hi : P.info? g.type with
        | none => simp [hi] at hf
        | some i =>
          simp [hi] at hf
          have e1 : (underlying s : Sem TypeDesc) = .program fun p => (match p.underlying s with | some d => (pure d : Sem TypeDesc) | none => stuck "no such type") := rfl
          show calm P ((underlying s).bind _)
          rw [e1]
          simp only [Sem.bind, calm, hu]
          show calm P (Sem.bind (Sem.pure (TypeDesc.struct fs)) _)
          simp only [Sem.bind, hg]
          refine calm_bind' _ _ ?_ fun b => calm_bind' _ _ ?_ fun _ => trivial
          · unfold Instr.sureAddr; split <;> trivial
          · unfold fieldPlace
            show calm P (Sem.bind (sizeOf g.type) _)
            have e2 : (sizeOf g.type : Sem Nat) = .program fun p => Sem.bind (match p.info? g.type with | some i => (pure i : Sem TypeInfo) | none => stuck "no such type") fun i => .pure i.size := rfl
            rw [e2]
            simp only [Sem.bind, calm, hi]
            show calm P (if i.size = 0 then _ else _)
            rw [if_neg hf]
            trivial
  case extract t i => refine calm_value _ ?_; unfold Instr.extract; split <;> (try split) <;> trivial
  case nilCheck x =>
    simp only [condB] at hc
    simp only [execOp]
    cases hx : a.eval x <;> simp [hx, ptrV] at hc
    rename_i b
    cases b
    · exact calm_of_dead _ (dead_runtimePanic _ rfl)
    · trivial
  case binOp op t x y u =>
    simp only [condB, Bool.and_eq_true] at hc
    refine calm_value _ ?_
    exact calm_bind' _ _ (calm_eqGuard _ _ _ _ _ _ hc.1.2 hc.2) fun _ => calm_binOp _ _ _ _ hc.1.2 hc.2
  case indexAddr t x i =>
    refine calm_value _ ?_
    unfold Instr.indexAt
    refine calm_bind' _ _ (calm_asIntOf _) fun r => ?_
    obtain ⟨k, j⟩ := r
    refine calm_bind' _ _ (calm_underlying _) fun u => ?_
    have hrest : ∀ (un : Unsupported) (base : Option Addr) (len : Nat) (elem : TypeId), calm P (Sem.bind (underlying t) fun d =>
        match base with
        | some a =>
          if 0 ≤ j ∧ j < len then Sem.bind (sizeOf elem) fun z => Sem.pure (.pointer (some (a.add (j.toNat * z))))
          else if (decide (len ≤ 1) && (match d with | .array .. => true | _ => false)) = true then unsupported un
          else boundsPanic k j len .index
        | none => boundsPanic k j 0 .index : Sem Value) := by
      intro un base len elem
      refine calm_bind _ _ (fun d => ?_) (calm_underlying _)
      cases base with
      | none => exact calm_boundsPanic ..
      | some b =>
        dsimp only
        by_cases h1 : 0 ≤ j ∧ j < (len : Int)
        · rw [if_pos h1]; exact calm_bind _ _ (fun _ => trivial) (calm_sizeOf _)
        · rw [if_neg h1]
          generalize (decide (len ≤ 1) && (match d with | .array .. => true | _ => false)) = q
          cases q
          · exact calm_boundsPanic ..
          · trivial
    simp only [Bind.bind, Sem.bind, Pure.pure]
    split
    · refine calm_bind _ _ (fun q => ?_) ?_
      · exact hrest _ (some q) _ _
      · unfold Instr.sureAddr; split <;> trivial
    · exact hrest _ _ _ _
    · trivial
  case unOp op t x =>
    refine calm_value _ ?_
    unfold Op.unary
    split <;> first | trivial | (unfold Op.intArith; trivial) | (unfold Op.intBits; trivial)
  case slice t x lo hi mx =>
    refine calm_value _ ?_
    simp only [fieldOK] at hf
    simp only [condB] at hc
    unfold Instr.sliceAt
    have e1 : (underlying t : Sem TypeDesc) = .program fun p => (match p.underlying t with | some d => (pure d : Sem TypeDesc) | none => stuck "no such type") := rfl
    show calm P ((underlying t).bind _)
    rw [e1]
    cases hu : P.underlying t with
    | none => simp [hu] at hf
    | some d =>
      have inner : ∀ d, (d = TypeDesc.string ∨ ∃ e, d = .slice e) → P.underlying t = some d → calm P (Instr.slice t (a.eval x) (lo.map a.eval) (hi.map a.eval) (mx.map a.eval)) := by
        intro d hd hu
        unfold Instr.slice
        show calm P ((underlying t).bind _)
        rw [e1]
        simp only [Sem.bind, calm, hu]
        show calm P (Sem.bind (Sem.pure d) _)
        simp only [Sem.bind]
        rcases hd with rfl | ⟨e, rfl⟩
        · cases hx : a.eval x <;> simp [hx, sliceV] at hc
          · dsimp only
            split
            · trivial
            · exact calm_bind' _ _ (calm_sliceBounds ..) fun _ => trivial
          · trivial
        · cases hx : a.eval x <;> simp [hx, sliceV] at hc
          · trivial
          · dsimp only
            exact calm_bind' _ _ (calm_sliceBounds ..) fun _ => calm_bind' _ _ (calm_sizeOf _) fun _ => trivial
      simp only [Sem.bind, calm, hu]
      show calm P (Sem.bind (Sem.pure d) _)
      simp only [Sem.bind]
      cases d <;> simp [hu] at hf
      · exact inner _ (.inl rfl) hu
      · exact inner _ (.inr ⟨_, rfl⟩) hu
  case call c =>
    obtain ⟨callee, args, ts⟩ := c
    cases callee <;> (try (simp [pureOp] at hp; done))
    rename_i b
    cases b <;> (try (simp [pureOp] at hp; done))
    simp only [fieldOK] at hf
    simp only [condB] at hc
    show calm P (do let v ← Builtin.len_ ts type (args.map a.eval); pure (Next.value v))
    refine calm_value _ ?_
    unfold Builtin.len_
    cases ht : ts[0]? with
    | none => trivial
    | some t =>
      cases hx : (args.map a.eval)[0]? with
      | none => trivial
      | some x =>
        dsimp only
        have hl : lenV x = true := by
          rw [List.all_eq_true] at hc
          refine hc x ?_
          have := List.mem_of_getElem? (l := (args.map a.eval).toList) (i := 0) (a := x) (by simpa using hx)
          simpa using this
        have e1 : (underlying t : Sem TypeDesc) = .program fun p => (match p.underlying t with | some d => (pure d : Sem TypeDesc) | none => stuck "no such type") := rfl
        show calm P ((underlying t).bind _)
        rw [e1]
        cases hu : P.underlying t with
        | none => simp [ht, hu] at hf
        | some d =>
          simp only [Sem.bind, calm, hu]
          show calm P (Sem.bind (Sem.pure d) _)
          simp only [Sem.bind]
          cases d <;> simp [ht, hu] at hf <;> cases x <;> simp [lenV] at hl <;> trivial

/-! ### loads -/

/-- Programs that leave the world alone. -/
def keeps {α : Type} : Sem α → Prop
  | .pure _ => True
  | .load _ _ k => ∀ v, keeps (k v)
  | .program k => ∀ p, keeps (k p)
  | .halt _ => True
  | _ => False

theorem keeps_run {α : Type} {P : Program} (s : Sem α) : keeps s → ∀ w v w', s.run P w = .ok v w' → w' = w := by
  induction s with
  | pure a => intro _ w v w' h; simp [Sem.run] at h; exact h.2.symm
  | halt h => intro _ w v w' h; simp [Sem.run] at h
  | program k ih => intro h w v w' hr; exact ih P (h P) w v w' hr
  | load m a k ih =>
    intro h w v w' hr
    simp only [Sem.run] at hr
    split at hr
    · exact ih _ (h _) w v w' hr
    · split at hr
      · exact ih _ (h _) w v w' hr
      · simp at hr
  | _ => intro h; exact h.elim

theorem keeps_bind {α β : Type} (s : Sem α) (f : α → Sem β) (hf : ∀ a, keeps (f a)) : keeps s → keeps (s.bind f) := by
  induction s with
  | pure a => intro _; exact hf a
  | halt h => intro _; trivial
  | program k ih => intro h p; exact ih p (h p)
  | load m a k ih => intro h v; exact ih v (h v)
  | _ => intro h; exact h.elim

theorem keeps_underlying (t : TypeId) : keeps (underlying t) := by
  intro p
  show keeps (match p.underlying t with | some d => (pure d : Sem TypeDesc) | none => stuck "no such type")
  split <;> trivial

theorem keeps_sizeOf (t : TypeId) : keeps (sizeOf t) := by
  intro p
  show keeps (Sem.bind (match p.info? t with | some i => (pure i : Sem TypeInfo) | none => stuck "no such type") fun i => .pure i.size)
  split <;> trivial

theorem keeps_loadCellsFrom (a : Addr) : ∀ (n i : Nat) (acc : Array Value), keeps (loadCellsFrom a i n acc)
  | 0, _, _ => trivial
  | n + 1, i, acc => by
    intro v
    exact keeps_loadCellsFrom a n (i + 1) (acc.push v)

theorem keeps_loadVar (t : TypeId) (a : Addr) : keeps (loadVar t a) := by
  unfold loadVar
  refine keeps_bind _ _ (fun b => ?_) ?_
  · cases b
    · intro v; trivial
    · exact keeps_bind _ _ (fun n => keeps_bind _ _ (fun _ => trivial) (keeps_loadCellsFrom _ _ _ _)) (keeps_sizeOf t)
  · exact keeps_bind _ _ (fun d => by split <;> trivial) (keeps_underlying t)

theorem load_keeps (o : Oper) (a : Act) (h : loadOp o.op = true) : ∃ s : Sem Value, keeps s ∧ execOp a.eval o = (do let v ← s; pure (Next.value v)) := by
  obtain ⟨dst, op, type, pos, after, guard⟩ := o
  cases op <;> simp [loadOp] at h
  rename_i t x
  refine ⟨Instr.loadAt t (a.eval x), ?_, rfl⟩
  refine keeps_bind _ _ (fun b => keeps_loadVar t b) ?_
  unfold Instr.sureAddr
  split <;> trivial

/-! ### operations carried out, told by what becomes of the frame -/

section
variable {P : Program} {ops : Array Oper}

theorem run_bind_value (s : Sem Value) (hk : keeps s) (w : World) {n : Next} {w' : World} (h : (s.bind fun v => .pure (Next.value v)).run P w = .ok n w') : ∃ v, n = .value v ∧ s.run P w = .ok v w' := by
  induction s generalizing w with
  | pure a =>
    simp [Sem.bind] at h
    exact ⟨a, h.1.symm, by simp [Sem.run, h.2]⟩
  | halt x => simp [Sem.bind] at h
  | program k ih => exact ih P (hk P) w h
  | load m a k ih =>
    simp only [Sem.bind, Sem.run] at h ⊢
    cases hc : w.cell? a with
    | some v => simp only [hc] at h ⊢; exact ih _ (hk v) w h
    | none =>
      simp only [hc] at h ⊢
      cases hf : w.farLoad P a (m == .atomic) with
      | ok r => simp only [hf] at h ⊢; exact ih _ (hk _) w h
      | error x => simp [hf] at h
  | _ => exact hk.elim

/-- What a quiet operation comes to: the value v in every world that is like w in the sense R. -/
def St (P : Program) (ops : Array Oper) (R : World → World → Prop) (o : Oper) (v : Value) (a : Act) (w : World) : Prop :=
  (Region.wanted o (yielded ops a.tmps) = true ∧ ∀ w', R w w' → (execOp a.eval o).run P w' = .ok (.value v) w') ∨
  (Region.wanted o (yielded ops a.tmps) = false ∧ v = undef)

theorem St.of_same {R : World → World → Prop} {o : Oper} {v : Value} {a a' : Act} {w w' : World} (h : St P ops R o v a w)
    (he : execOp a'.eval o = execOp a.eval o) (hw : Region.wanted o (yielded ops a'.tmps) = Region.wanted o (yielded ops a.tmps))
    (hR : ∀ x, R w' x → R w x) : St P ops R o v a' w' := by
  unfold St at *
  rw [he, hw]
  exact h.imp (fun ⟨h1, h2⟩ => ⟨h1, fun x hx => h2 x (hR x hx)⟩) id

theorem St.unique {R : World → World → Prop} {o : Oper} {u v : Value} {a a' : Act} {w : World} (h : St P ops R o v a w) (h' : St P ops R o u a' w)
    (he : execOp a'.eval o = execOp a.eval o) (hw : Region.wanted o (yielded ops a'.tmps) = Region.wanted o (yielded ops a.tmps)) (hR : R w w) : u = v := by
  unfold St at *
  rw [he, hw] at h'
  rcases h with ⟨h1, h2⟩ | ⟨h1, h2⟩ <;> rcases h' with ⟨k1, k2⟩ | ⟨k1, k2⟩
  · have e1 := h2 w hR
    have e2 := k2 w hR
    rw [e1] at e2
    simp at e2
    exact e2.symm
  · rw [h1] at k1; cases k1
  · rw [h1] at k1; cases k1
  · rw [h2, k2]

/-- Whether an operation looks at the world in no way, or only loads. -/
def quietB (o : Oper) : Bool := pureOp o.op || loadOp o.op

/-- Worlds that a quiet operation cannot tell apart: of kind 0: all; a load that is held: those that agree on the blocks of S; any other load: the very world. -/
def Rof (S : Nat → Prop) (held : Bool) (o : Oper) (w w' : World) : Prop :=
  if pureOp o.op then True else if held then ∀ b, S b → w'.heap[b]? = w.heap[b]? else w' = w

def Kp (S : Nat → Prop) (w w' : World) : Prop := ∀ b, S b → w'.heap[b]? = w.heap[b]?

theorem Rof.refl (S : Nat → Prop) (held : Bool) (o : Oper) (w : World) : Rof S held o w w := by
  unfold Rof; split
  · trivial
  · split
    · intro _ _; rfl
    · rfl

/-- One operation, in the text's order. -/
def T (P : Program) (ops : Array Oper) (S : Nat → Prop) (held : Nat → Bool) (i : Nat) (K : Act → World → Prop) (a : Act) (w : World) : Prop :=
  match ops[i]? with
  | none => K a w
  | some o =>
    if quietB o then ∃ v, St P ops (Rof S (held i) o) o v a w ∧ K (a.put o.dst v) w
    else if Region.wanted o (yielded ops a.tmps) then o.wp P a w (fun a' w' => Kp S w w' ∧ K a' w') NoQ
    else K (a.put o.dst undef) w

theorem T_mono {S : Nat → Prop} {held : Nat → Bool} {i : Nat} {K K' : Act → World → Prop} (h : ∀ a w, K a w → K' a w) {a : Act} {w : World} (hT : T P ops S held i K a w) : T P ops S held i K' a w := by
  unfold T at *
  split at hT
  · exact h _ _ hT
  · split at hT
    · rename_i hq; simp only [hq, if_true]; obtain ⟨v, h1, h2⟩ := hT; exact ⟨v, h1, h _ _ h2⟩
    · rename_i hq
      simp only [hq, if_false, Bool.false_eq_true]
      split at hT
      · rename_i hw; simp only [hw, if_true]; exact Oper.wp_mono (fun a w h' => ⟨h'.1, h _ _ h'.2⟩) hT
      · rename_i hw; simp only [hw, if_false, Bool.false_eq_true]; exact h _ _ hT

theorem wp_NoQ {o : Oper} {a : Act} {w : World} {K : Act → World → Prop} {Q : Exit → Act → World → Prop} (h : o.wp P a w K NoQ) : o.wp P a w K Q := by
  unfold Oper.wp at *
  generalize (execOp a.eval o).run P w = r at *
  cases r with
  | ok n w' =>
    cases n <;> simp only [Oper.upon] at h ⊢ <;> first
      | exact h
      | exact Calls.mono h (fun e w'' he => by
          cases e with
          | returned v => exact he
          | panicked c => exact he.elim
          | outgrown => obtain ⟨_, _, h⟩ := he; exact h.elim)
  | halt x w' => cases x <;> simp only [Oper.upon] at h ⊢ <;> exact h.elim

theorem T_sound {S : Nat → Prop} {held : Nat → Bool} {i : Nat} {K : Act → World → Prop} {Q : Exit → Act → World → Prop} {a : Act} {w : World} (hT : T P ops S held i K a w) : wpOp P ops Q i K a w := by
  unfold T at hT
  unfold wpOp
  cases ho : ops[i]? with
  | none => simp only [ho] at hT; exact hT
  | some o =>
    simp only [ho] at hT ⊢
    split at hT
    · obtain ⟨v, h1, h2⟩ := hT
      rcases h1 with ⟨hw, hr⟩ | ⟨hw, rfl⟩
      · simp only [hw, if_true]
        refine .inl ?_
        simp only [Oper.wp, hr w (Rof.refl S _ o w), Oper.upon]
        exact h2
      · simp only [hw, Bool.false_eq_true, if_false]; exact h2
    · split at hT
      · rename_i hw; simp only [hw, if_true]; exact .inl (wp_NoQ (Oper.wp_mono (fun _ _ h => h.2) hT))
      · rename_i hw; simp only [hw, if_false, Bool.false_eq_true]; exact hT

/-- Behind an operation the frame is as it was but for the slot that it fills. -/
theorem wp_strong {o : Oper} {a : Act} {w : World} {K K' : Act → World → Prop} (h : o.wp P a w K NoQ)
    (hK : ∀ a' w' u, a'.tmps = (a.put o.dst u).tmps → K a' w' → K' a' w') : o.wp P a w K' NoQ := by
  unfold Oper.wp at *
  generalize (execOp a.eval o).run P w = r at *
  cases r with
  | ok n w' =>
    cases n <;> simp only [Oper.upon] at h ⊢
    case value v => exact hK _ _ v rfl h
    case skip => exact hK _ _ undef rfl h
    case defer d => exact hK _ _ undef (by cases o.dst <;> rfl) h
    case enter f args =>
      exact Calls.mono h (fun e w'' he => by
        cases e with
        | returned v => exact hK _ _ v rfl he
        | panicked c => exact he
        | outgrown => exact he)
    case row row args => exact Rows.mono h (fun v w'' he => hK _ _ v rfl he)
  | halt x w' => cases x <;> simp only [Oper.upon] at h ⊢ <;> exact h.elim

theorem wp_some {o : Oper} {a : Act} {w : World} {K : Act → World → Prop} (h : o.wp P a w K NoQ) : ∃ a' w' u, a'.tmps = (a.put o.dst u).tmps ∧ K a' w' := by
  unfold Oper.wp at *
  generalize (execOp a.eval o).run P w = r at *
  cases r with
  | ok n w' =>
    cases n <;> simp only [Oper.upon] at h
    case value v => exact ⟨_, _, v, rfl, h⟩
    case skip => exact ⟨_, _, undef, rfl, h⟩
    case defer d => exact ⟨_, _, undef, by cases o.dst <;> rfl, h⟩
    case enter f args =>
      obtain ⟨e, w'', fr, hR, _⟩ := h []
      cases e with
      | returned v => exact ⟨_, _, v, rfl, hR⟩
      | panicked c => exact hR.elim
      | outgrown => obtain ⟨_, _, h⟩ := hR; exact h.elim
    case row row args =>
      obtain ⟨v, w'', hR, _⟩ := h default []
      exact ⟨_, _, v, rfl, hR⟩
  | halt x w' => cases x <;> simp only [Oper.upon] at h <;> exact h.elim

/-- A slot that the operation does not look at may be filled before or behind it. -/
theorem wp_put {o : Oper} {a : Act} {w : World} {K : Act → World → Prop} {d : Option Tmp} {v : Value} (hs : ∀ cs b, o.op ≠ .select cs b)
    (h1 : ∀ x, d = some x → x ∉ o.looksAt ops) (h2 : ∀ x, d = some x → o.dst ≠ some x) :
    o.wp P (a.put d v) w K NoQ ↔ o.wp P a w (fun a' w' => K (a'.put d v) w') NoQ := by
  unfold Oper.wp
  rw [execOp_put o hs a d v h1]
  generalize (execOp a.eval o).run P w = r
  cases r with
  | ok n w' =>
    cases n <;> simp only [Oper.upon]
    case value u => rw [Act.put_comm a v u h2]
    case skip => rw [Act.put_comm a v undef h2]
    case defer x => rw [Act.put_defers, Act.put_comm _ v undef h2]
    case enter f args =>
      constructor
      · intro h; refine Calls.mono h (fun e w'' he => ?_)
        cases e with
        | returned u => dsimp only at he ⊢; rw [← Act.put_comm a v u h2]; exact he
        | panicked c => exact he
        | outgrown => exact he
      · intro h; refine Calls.mono h (fun e w'' he => ?_)
        cases e with
        | returned u => dsimp only at he ⊢; rw [Act.put_comm a v u h2]; exact he
        | panicked c => exact he
        | outgrown => exact he
    case row row args =>
      constructor
      · intro h; refine Rows.mono h (fun u w'' he => ?_); rw [← Act.put_comm a v u h2]; exact he
      · intro h; refine Rows.mono h (fun u w'' he => ?_); rw [Act.put_comm a v u h2]; exact he
  | halt x w' => cases x <;> simp only [Oper.upon, NoQ]

theorem execOp_tmps (o : Oper) {a a' : Act} (h : a'.tmps = a.tmps) : execOp a'.eval o = execOp a.eval o := by
  have : a'.eval = a.eval := by
    funext x
    cases x <;> simp [Act.eval, h]
  rw [this]


theorem wanted_tmps (o : Oper) {a a' : Act} (h : a'.tmps = a.tmps) : Region.wanted o (yielded ops a'.tmps) = Region.wanted o (yielded ops a.tmps) := by rw [h]

/-- May the two be exchanged? (hx, hy: is x, y a load that is held?) -/
def pairOK (hx hy : Bool) (ops : Array Oper) (x y : Oper) : Bool :=
  x.apart ops y && (match x.op with | .select .. => false | _ => true) && (match y.op with | .select .. => false | _ => true) &&
  (if quietB x && quietB y then true
   else if quietB x then (pureOp x.op || hx)
   else if quietB y then (pureOp y.op || hy)
   else false)

theorem noSel {o : Oper} (h : (match o.op with | .select .. => false | _ => true) = true) : ∀ cs b, o.op ≠ .select cs b := by
  intro cs b e
  rw [e] at h
  cases h

theorem Rof_of_Kp {S : Nat → Prop} {o : Oper} {held : Bool} (h : (pureOp o.op || held) = true) {w w' : World} (hk : Kp S w w') : ∀ x, Rof S held o w' x → Rof S held o w x := by
  unfold Rof
  cases hp : pureOp o.op with
  | true => exact fun _ _ => trivial
  | false =>
    simp only [hp, Bool.false_or] at h
    subst h
    exact fun x hx b hb => (hx b hb).trans (hk b hb)

theorem Rof_back {S : Nat → Prop} {o : Oper} {held : Bool} (h : (pureOp o.op || held) = true) {w w' : World} (hk : Kp S w w') : ∀ x, Rof S held o w x → Rof S held o w' x := by
  unfold Rof
  cases hp : pureOp o.op with
  | true => exact fun _ _ => trivial
  | false =>
    simp only [hp, Bool.false_or] at h
    subst h
    exact fun x hx b hb => (hx b hb).trans (hk b hb).symm

theorem put_tmps_congr {a a' : Act} (h : a'.tmps = a.tmps) (d : Option Tmp) (v : Value) : (a'.put d v).tmps = (a.put d v).tmps := by
  cases d <;> simp [Act.put, h]

/-- THE EXCHANGE. -/
theorem swap {S : Nat → Prop} {held : Nat → Bool} {y x : Nat} {oy ox : Oper} (hy : ops[y]? = some oy) (hx : ops[x]? = some ox)
    (hok : pairOK (held y) (held x) ops oy ox = true) {K : Act → World → Prop} {a : Act} {w : World} (h : T P ops S held y (T P ops S held x K) a w) : T P ops S held x (T P ops S held y K) a w := by
  simp only [pairOK, Bool.and_eq_true] at hok
  obtain ⟨⟨⟨hap, hsy⟩, hsx⟩, hk⟩ := hok
  have hsy := noSel hsy
  have hsx := noSel hsx
  obtain ⟨h1, h2, h3⟩ := Oper.apart_spec hap
  have h2' : ∀ d, ox.dst = some d → oy.dst ≠ some d := fun d hd e => h2 d e hd
  have hT : ∀ (i : Nat) (o : Oper), ops[i]? = some o → ∀ (K : Act → World → Prop) a w, T P ops S held i K a w = (if quietB o then ∃ v, St P ops (Rof S (held i) o) o v a w ∧ K (a.put o.dst v) w
      else if Region.wanted o (yielded ops a.tmps) then o.wp P a w (fun a' w' => Kp S w w' ∧ K a' w') NoQ else K (a.put o.dst undef) w) := by
    intro i o ho K a w
    unfold T
    simp only [ho]
  have ey : ∀ (a : Act) u, execOp (a.put ox.dst u).eval oy = execOp a.eval oy := fun a u => execOp_put oy hsy a ox.dst u h3
  have wy : ∀ (a : Act) u, Region.wanted oy (yielded ops (a.put ox.dst u).tmps) = Region.wanted oy (yielded ops a.tmps) := fun a u => wanted_put oy a ox.dst u h3
  have ex : ∀ (a : Act) u, execOp (a.put oy.dst u).eval ox = execOp a.eval ox := fun a u => execOp_put ox hsx a oy.dst u h1
  have wx : ∀ (a : Act) u, Region.wanted ox (yielded ops (a.put oy.dst u).tmps) = Region.wanted ox (yielded ops a.tmps) := fun a u => wanted_put ox a oy.dst u h1
  rw [hT y oy hy] at h
  rw [hT x ox hx]
  cases qy : quietB oy with
  | true =>
    simp only [qy, if_true] at h
    obtain ⟨v, sy, h⟩ := h
    rw [hT x ox hx] at h
    cases qx : quietB ox with
    | true =>
      simp only [qx, if_true] at h ⊢
      obtain ⟨u, sx, h⟩ := h
      refine ⟨u, sx.of_same (ex a v).symm (wx a v).symm (fun _ h => h), ?_⟩
      rw [hT y oy hy]
      simp only [qy, if_true]
      exact ⟨v, sy.of_same (ey a u) (wy a u) (fun _ h => h), by rw [← Act.put_comm a v u h2]; exact h⟩
    | false =>
      simp only [qx, Bool.false_eq_true, if_false] at h ⊢
      have hk' : (pureOp oy.op || held y) = true := by simpa [qx, qy] using hk
      rw [wx a v] at h
      split
      · rename_i hw
        simp only [hw, if_true] at h
        rw [wp_put (ops := ops) hsx h1 h2] at h
        refine wp_strong h fun a' w' u ha hh => ⟨hh.1, ?_⟩
        rw [hT y oy hy]
        simp only [qy, if_true]
        refine ⟨v, sy.of_same ?_ ?_ (Rof_of_Kp hk' hh.1), hh.2⟩
        · rw [execOp_tmps oy ha, ey]
        · rw [wanted_tmps oy ha, wy]
      · rename_i hw
        simp only [hw, if_false, Bool.false_eq_true] at h
        rw [hT y oy hy]
        simp only [qy, if_true]
        exact ⟨v, sy.of_same (ey a undef) (wy a undef) (fun _ h => h), by rw [← Act.put_comm a v undef h2]; exact h⟩
  | false =>
    simp only [qy, Bool.false_eq_true, if_false] at h
    cases qx : quietB ox with
    | false => simp [qx, qy] at hk
    | true =>
      have hk' : (pureOp ox.op || held x) = true := by simpa [qx, qy] using hk
      simp only [if_true]
      split at h
      · rename_i hw
        obtain ⟨a0, w0, u0, ha0, hkp, h0⟩ := wp_some h
        rw [hT x ox hx] at h0
        simp only [qx, if_true] at h0
        obtain ⟨v, sx0, _⟩ := h0
        have sx : St P ops (Rof S (held x) ox) ox v a w := by
          refine sx0.of_same ?_ ?_ (Rof_back hk' hkp)
          · rw [execOp_tmps ox ha0, ex]
          · rw [wanted_tmps ox ha0, wx]
        refine ⟨v, sx, ?_⟩
        rw [hT y oy hy]
        simp only [qy, Bool.false_eq_true, if_false, wy, hw, if_true]
        rw [wp_put (ops := ops) hsy h3 h2']
        refine wp_strong h fun a' w' u ha hh => ⟨hh.1, ?_⟩
        have hh2 := hh.2
        rw [hT x ox hx] at hh2
        simp only [qx, if_true] at hh2
        obtain ⟨v', sx', hK⟩ := hh2
        have sxw : St P ops (Rof S (held x) ox) ox v a' w' := by
          refine sx.of_same ?_ ?_ (Rof_of_Kp hk' hh.1)
          · rw [execOp_tmps ox ha, ex]
          · rw [wanted_tmps ox ha, wx]
        have : v' = v := sxw.unique sx' rfl rfl (Rof.refl S _ ox w')
        rw [← this]
        exact hK
      · rename_i hw
        rw [hT x ox hx] at h
        simp only [qx, if_true] at h
        obtain ⟨v, sx, hK⟩ := h
        refine ⟨v, sx.of_same (ex a undef).symm (wx a undef).symm (fun _ h => h), ?_⟩
        rw [hT y oy hy]
        simp only [qy, Bool.false_eq_true, if_false, wy, hw]
        rw [Act.put_comm a v undef h2']
        exact hK

/-! ### the chain in the text's order serves every order -/

def chain (P : Program) (ops : Array Oper) (S : Nat → Prop) (held : Nat → Bool) (K : Act → World → Prop) : List Nat → Act → World → Prop
  | [] => K
  | i :: l => T P ops S held i (chain P ops S held K l)

theorem chain_front {S : Nat → Prop} {held : Nat → Bool} {K : Act → World → Prop} {x : Nat} : ∀ (l₁ l₂ : List Nat) (a : Act) (w : World),
    (∀ y ∈ l₁, ∀ K a w, T P ops S held y (T P ops S held x K) a w → T P ops S held x (T P ops S held y K) a w) → chain P ops S held K (l₁ ++ x :: l₂) a w → T P ops S held x (chain P ops S held K (l₁ ++ l₂)) a w
  | [], _, _, _, _, h => h
  | y :: l₁, l₂, a, w, hs, h => by
    refine hs y (by simp) _ _ _ ?_
    exact T_mono (fun a w h => chain_front l₁ l₂ a w (fun z hz => hs z (by simp [hz])) h) h

/-- The numbers that are not listed yet, in order. -/
def rem (ops : Array Oper) (listed : Array Bool) : List Nat := (List.range ops.size).filter fun i => !listed.getD i true

/-- THE CHECK over a region: edges lead back; of two operations the edges order, or they may be exchanged. -/
def orderedB (cl : Array Nat) (y x : Nat) : Bool := (cl.getD x 0).testBit y

def certB (ops : Array Oper) (cl : Array Nat) : Bool :=
  (List.range ops.size).all fun x =>
    match ops[x]? with
    | none => false
    | some o =>
      (o.after.toList.all fun e => !Region.binds .any e || decide (e.on < x)) &&
      (List.range x).all fun y => !orderedB cl y x || (o.after.toList.any fun e => Region.binds .any e && (e.on == y || (decide (y < e.on) && orderedB cl y e.on)))

def pairsB (held : Nat → Bool) (ops : Array Oper) (cl : Array Nat) : Bool :=
  (List.range ops.size).all fun x => (List.range x).all fun y =>
    orderedB cl y x || (match ops[y]?, ops[x]? with | some oy, some ox => pairOK (held y) (held x) ops oy ox | _, _ => false)

/-- What is listed holds with an operation all that its edges ask. -/
def downB (ops : Array Oper) (listed : Array Bool) : Prop :=
  ∀ i o, ops[i]? = some o → listed.getD i true = true → ∀ e ∈ o.after, Region.binds .any e = true → listed.getD e.on false = true

theorem ordered_listed {cl : Array Nat} (hc : certB ops cl = true) {listed : Array Bool} (hsz : listed.size = ops.size) (hd : downB ops listed) :
    ∀ (x : Nat) (o : Oper), ops[x]? = some o → (∀ e ∈ o.after, Region.binds .any e = true → listed.getD e.on false = true) → ∀ y, y < x → orderedB cl y x = true → listed.getD y false = true := by
  intro x
  induction x using Nat.strongRecOn with
  | ind x ih =>
    intro o ho hall y hyx hord
    have hlt : x < ops.size := (Array.getElem?_eq_some_iff.1 ho).1
    have hcx := (List.all_eq_true.1 hc) x (List.mem_range.2 hlt)
    simp only [ho, Bool.and_eq_true] at hcx
    have hback := List.all_eq_true.1 hcx.1
    have hy := (List.all_eq_true.1 hcx.2) y (List.mem_range.2 hyx)
    simp only [hord, Bool.not_true, Bool.false_or] at hy
    obtain ⟨e, he, hb⟩ := List.any_eq_true.1 hy
    simp only [Bool.and_eq_true, Bool.or_eq_true, beq_iff_eq, decide_eq_true_eq] at hb
    obtain ⟨hbe, hb⟩ := hb
    have hlist := hall e (by simpa using he) hbe
    rcases hb with rfl | ⟨hye, hb⟩
    · exact hlist
    · have hlt' : e.on < x := by
        have := hback e he
        simpa [hbe] using this
      have hsz' : e.on < ops.size := by omega
      have hsome : ops[e.on]? = some ops[e.on] := by simp [hsz']
      refine ih e.on hlt' ops[e.on] hsome ?_ y hye hb
      refine hd e.on _ hsome ?_
      have : e.on < listed.size := by omega
      simp [Array.getElem?_eq_getElem this] at hlist ⊢
      exact hlist

theorem mem_rem {listed : Array Bool} {i : Nat} : i ∈ rem ops listed ↔ i < ops.size ∧ listed.getD i true = false := by
  simp [rem]

theorem filter_split {p : Nat → Bool} {x : Nat} : ∀ (l : List Nat), l.Nodup → x ∈ l → p x = true → ∃ l₁ l₂, l.filter p = l₁ ++ x :: l₂ ∧ l.filter (fun i => p i && i != x) = l₁ ++ l₂ ∧ ∀ y ∈ l₁, y ∈ l ∧ p y = true
  | [], _, h, _ => by simp at h
  | z :: l, hn, h, hp => by
    rw [List.nodup_cons] at hn
    by_cases hz : z = x
    · subst hz
      refine ⟨[], l.filter p, by simp [hp], ?_, by simp⟩
      simp only [List.nil_append, List.filter_cons, bne_self_eq_false, Bool.and_false, Bool.false_eq_true, if_false]
      refine List.filter_congr fun i hi => ?_
      have : i ≠ z := fun e => hn.1 (e ▸ hi)
      simp [this]
    · have hx : x ∈ l := by simpa [Ne.symm hz] using h
      obtain ⟨l₁, l₂, e1, e2, e3⟩ := filter_split l hn.2 hx hp
      cases hpz : p z with
      | false => exact ⟨l₁, l₂, by simp [hpz, e1], by simp [hpz, e2], fun y hy => ⟨by simp [(e3 y hy).1], (e3 y hy).2⟩⟩
      | true =>
        refine ⟨z :: l₁, l₂, by simp [hpz, e1], by simp [hpz, hz, e2], fun y hy => ?_⟩
        rcases List.mem_cons.1 hy with rfl | hy
        · exact ⟨by simp, hpz⟩
        · exact ⟨by simp [(e3 y hy).1], (e3 y hy).2⟩

theorem filter_before {p : Nat → Bool} {x : Nat} : ∀ (n : Nat) {l₁ l₂ : List Nat}, (List.range n).filter p = l₁ ++ x :: l₂ → ∀ y ∈ l₁, y < x := by
  intro n l₁ l₂ h y hy
  have hs : List.Pairwise (· < ·) ((List.range n).filter p) := List.Pairwise.filter _ List.pairwise_lt_range
  rw [h, List.pairwise_append] at hs
  exact hs.2.2 y hy x (by simp)

/-- THE THEOREM: the chain in the text's order serves whatever order is picked. -/
theorem any_of_chain {S : Nat → Prop} {held : Nat → Bool} {cl : Array Nat} (hc : certB ops cl = true) (hp : pairsB held ops cl = true)
    {K : Act → World → Prop} {Q : Exit → Act → World → Prop} (hQ : ∀ a w, K a w → Q .normal a w) :
    ∀ (fuel : Nat) (listed : Array Bool) (a : Act) (w : World), listed.size = ops.size → downB ops listed → (rem ops listed).length = fuel →
      chain P ops S held K (rem ops listed) a w → wpAny P .any ops Q fuel listed a w := by
  intro fuel
  induction fuel with
  | zero =>
    intro listed a w hsz hd hl h
    have hr : rem ops listed = [] := List.length_eq_zero_iff.1 hl
    refine ⟨?_, ?_⟩
    · rw [List.eq_nil_iff_forall_not_mem]
      intro i hi
      obtain ⟨h0, o, ho, _⟩ := mem_ready.1 hi
      have : i ∈ rem ops listed := mem_rem.2 ⟨(Array.getElem?_eq_some_iff.1 ho).1, h0⟩
      rw [hr] at this
      simp at this
    · rw [hr] at h
      exact hQ _ _ h
  | succ fuel ih =>
    intro listed a w hsz hd hl h
    refine ⟨fun hempty => ?_, fun i hi => ?_⟩
    · exfalso
      -- the least number that is left is ready
      have hne : rem ops listed ≠ [] := by intro e; rw [e] at hl; simp at hl
      have hex : ∃ i, i ∈ rem ops listed := List.exists_mem_of_ne_nil _ hne
      obtain ⟨i0, hi0⟩ := hex
      have key : ∀ i, i ∈ rem ops listed → False := by
        intro i
        induction i using Nat.strongRecOn with
        | ind i ihi =>
          intro hi
          obtain ⟨hlt, hnl⟩ := mem_rem.1 hi
          have hsome : ops[i]? = some ops[i] := by simp [hlt]
          have hci := (List.all_eq_true.1 hc) i (List.mem_range.2 hlt)
          simp only [hsome, Bool.and_eq_true] at hci
          have hback := List.all_eq_true.1 hci.1
          have hready : i ∈ Region.ready .any ops listed := by
            refine mem_ready.2 ⟨hnl, _, hsome, fun e he hb => ?_⟩
            have hlt' : e.on < i := by
              have := hback e (by simpa using he)
              simpa [hb] using this
            have hsz' : e.on < listed.size := by omega
            cases hle : listed.getD e.on true with
            | false => exact (ihi e.on hlt' (mem_rem.2 ⟨by omega, hle⟩)).elim
            | true =>
              simp [Array.getElem?_eq_getElem hsz'] at hle ⊢
              exact hle
          rw [hempty] at hready
          simp at hready
      exact key i0 hi0
    · obtain ⟨hnl, o, ho, hall⟩ := mem_ready.1 hi
      have hlt : i < ops.size := (Array.getElem?_eq_some_iff.1 ho).1
      obtain ⟨l₁, l₂, e1, e2, e3⟩ := filter_split (p := fun i => !listed.getD i true) (x := i) (List.range ops.size) List.nodup_range (List.mem_range.2 hlt) (by simpa using hnl)
      have hrem' : rem ops (listed.setIfInBounds i true) = l₁ ++ l₂ := by
        rw [← e2]
        unfold rem
        refine List.filter_congr fun j hj => ?_
        by_cases hij : i = j
        · subst hij
          have : i < listed.size := by omega
          simp [this]
        · rw [getD_set_ne true hij]
          have : (j != i) = true := by simp [Ne.symm hij]
          rw [this, Bool.and_true]
      have hfront : T P ops S held i (chain P ops S held K (l₁ ++ l₂)) a w := by
        refine chain_front l₁ l₂ a w ?_ (by have : rem ops listed = l₁ ++ i :: l₂ := e1; rw [← this]; exact h)
        intro y hy K a w hT
        have hyx : y < i := filter_before ops.size e1 y hy
        have hynl : listed.getD y true = false := by have := (e3 y hy).2; simpa using this
        have hylt : y < ops.size := by omega
        have hysome : ops[y]? = some ops[y] := by simp [hylt]
        have hno : orderedB cl y i = false := by
          cases hord : orderedB cl y i with
          | false => rfl
          | true =>
            have := ordered_listed hc hsz hd i o ho hall y hyx hord
            have hys : y < listed.size := by omega
            simp [Array.getElem?_eq_getElem hys] at this hynl
            rw [this] at hynl
            cases hynl
        have hpx := (List.all_eq_true.1 ((List.all_eq_true.1 hp) i (List.mem_range.2 hlt))) y (List.mem_range.2 hyx)
        simp only [hno, Bool.false_or, hysome, ho] at hpx
        exact swap hysome ho hpx hT
      refine wpOp_mono (fun a w h => ?_) (T_sound hfront)
      refine ih _ a w (by simpa using hsz) ?_ ?_ (by rw [hrem']; exact h)
      · intro j oj hj hlj e he hb
        by_cases hij : i = j
        · subst hij
          rw [ho] at hj
          cases hj
          exact getD_set_true (hall e he hb)
        · rw [getD_set_ne true hij] at hlj
          exact getD_set_true (hd j oj hj hlj e he hb)
      · rw [hrem']
        have : (rem ops listed).length = (l₁ ++ i :: l₂).length := by rw [← e1]; rfl
        rw [hl] at this
        simp at this ⊢
        omega

/-- A region that draws, from the chain in the text's order. -/
theorem region_of_chain {S : Nat → Prop} {held : Nat → Bool} {cl : Array Nat} (hm : P.follows .mixedOrders = true) (hc : certB ops cl = true) (hp : pairsB held ops cl = true)
    {K : Act → World → Prop} {Q : Exit → Act → World → Prop} (hQ : ∀ a w, K a w → Q .normal a w) {id : Nat} {a : Act} {w : World}
    (h : chain P ops S held K (List.range ops.size) a { w with drawn := w.drawn + 1 }) : (Code.region id ops true).wp P Q a w := by
  have hr : rem ops (Array.replicate ops.size false) = List.range ops.size := by
    unfold rem
    rw [List.filter_eq_self]
    intro i hi
    simp [List.mem_range.1 hi]
  refine wp_region_any hm (any_of_chain hc hp hQ ops.size _ a _ (by simp) ?_ (by rw [hr]; simp) (by rw [hr]; exact h))
  intro i o ho hli
  have : i < ops.size := (Array.getElem?_eq_some_iff.1 ho).1
  simp [this] at hli


/-! ### from the walk's own list to the chain -/

theorem run_value (s : Sem Value) (w : World) : (s.bind fun v => .pure (Next.value v)).run P w = match s.run P w with | .ok v w' => .ok (.value v) w' | .halt h w' => .halt h w' := by
  have := Sem.run_bind P w s (fun v => (Sem.pure (Next.value v) : Sem Next))
  have e : (s >>= fun v => (Sem.pure (Next.value v) : Sem Next)) = s.bind fun v => .pure (Next.value v) := rfl
  rw [e] at this
  rw [this]
  cases s.run P w <;> rfl

theorem exec_value (o : Oper) (a : Act) (hp : pureOp o.op = true) (hc : condB o a = true) : (∃ s : Sem Value, execOp a.eval o = s.bind fun v => .pure (Next.value v)) := by
  obtain ⟨dst, op, type, pos, after, guard⟩ := o
  cases op <;> (try (simp [pureOp] at hp; done))
  case move x => exact ⟨.pure (a.eval x), rfl⟩
  case assign x => exact ⟨.pure (a.eval x), rfl⟩
  case pick c x y =>
    cases hv : a.eval c with
    | bool b => exact ⟨.pure (if b then a.eval x else a.eval y), by simp only [execOp, hv]; rfl⟩
    | _ => exact ⟨stuck "bool expected", by simp only [execOp, hv]; rfl⟩
  case fieldAddr s x f => exact ⟨_, rfl⟩
  case extract t i => exact ⟨_, rfl⟩
  case nilCheck x =>
    simp only [condB] at hc
    cases hx : a.eval x <;> simp [hx, ptrV] at hc
    rename_i b
    cases b
    · exact ⟨runtimePanic .nilDeref, by simp only [execOp, hx]; rfl⟩
    · exact ⟨.pure (.pointer (some _)), by simp only [execOp, hx]; rfl⟩
  case binOp op t x y u => exact ⟨_, rfl⟩
  case indexAddr t x i => exact ⟨_, rfl⟩
  case unOp op t x => exact ⟨_, rfl⟩
  case slice t x lo hi mx => exact ⟨_, rfl⟩
  case call c =>
    obtain ⟨callee, args, ts⟩ := c
    cases callee <;> (try (simp [pureOp] at hp; done))
    rename_i b
    cases b <;> (try (simp [pureOp] at hp; done))
    exact ⟨Builtin.len_ ts type (args.map a.eval), rfl⟩

/-- A pure operation that goes through, goes through in every world, with the same value. -/
theorem pure_all {o : Oper} {a : Act} (hp : pureOp o.op = true) (hf : fieldOK P o = true) (hc : condB o a = true) {w : World} {K : Act → World → Prop} (h : o.wp P a w K NoQ) :
    ∃ v, (∀ w', (execOp a.eval o).run P w' = .ok (.value v) w') ∧ K (a.put o.dst v) w := by
  have hcalm := calm_op (P := P) o a hp hf hc
  obtain ⟨s, hs⟩ := exec_value o a hp hc
  unfold Oper.wp at h
  rcases calm_run _ hcalm with ⟨n, hn⟩ | hh
  · have hv : ∃ v, n = .value v := by
      have := hn w
      rw [hs, run_value] at this
      cases hr : s.run P w with
      | ok v w' => rw [hr] at this; simp at this; exact ⟨v, this.1.symm⟩
      | halt x w' => rw [hr] at this; simp at this
    obtain ⟨v, rfl⟩ := hv
    rw [hn w] at h
    exact ⟨v, hn, h⟩
  · obtain ⟨x, w', hx⟩ := hh w
    rw [hx] at h
    cases x <;> simp only [Oper.upon, NoQ] at h

theorem load_here {o : Oper} {a : Act} (hl : loadOp o.op = true) {w : World} {K : Act → World → Prop} (h : o.wp P a w K NoQ) :
    ∃ v, (execOp a.eval o).run P w = .ok (.value v) w ∧ K (a.put o.dst v) w := by
  obtain ⟨s, hk, hs⟩ := load_keeps o a hl
  unfold Oper.wp at h
  have hs' : execOp a.eval o = s.bind fun v => .pure (Next.value v) := hs
  have hr := run_value (P := P) s w
  rw [← hs'] at hr
  rw [hr] at h ⊢
  cases hv : s.run P w with
  | ok v w' =>
    have := keeps_run s hk w v w' hv
    subst this
    rw [hv] at h
    exact ⟨v, rfl, h⟩
  | halt x w' =>
    rw [hv] at h
    cases x <;> simp only [Oper.upon, NoQ] at h

theorem wp_toNoQ {o : Oper} {a : Act} {w : World} {K K' : Act → World → Prop} (h : o.wp P a w K (Exit.then K' NoQ)) : o.wp P a w K NoQ := by
  unfold Oper.wp at *
  generalize (execOp a.eval o).run P w = r at *
  cases r with
  | ok n w' =>
    cases n <;> simp only [Oper.upon] at h ⊢ <;> first
      | exact h
      | exact Calls.mono h (fun e w'' he => by
          cases e with
          | returned v => exact he
          | panicked c => exact he
          | outgrown => obtain ⟨_, _, h⟩ := he; exact h.elim)
  | halt x w' => cases x <;> simp only [Oper.upon] at h ⊢ <;> exact h

theorem list_cons {o : Oper} {l : List Oper} {a : Act} {w : World} {K : Act → World → Prop} (h : wpList P ops (Exit.then K NoQ) (o :: l) a w) :
    if Region.wanted o (yielded ops a.tmps) then o.wp P a w (wpList P ops (Exit.then K NoQ) l) NoQ else wpList P ops (Exit.then K NoQ) l (a.put o.dst undef) w := by
  unfold wpList at h
  split at h
  · rename_i hw
    rw [if_pos hw]
    rcases h with h | ⟨_, a0, w0, h⟩
    · exact wp_toNoQ h
    · exact h.elim
  · rename_i hw
    rw [if_neg hw]
    exact h

def dsts (l : List Oper) : List Tmp := l.filterMap (·.dst)

theorem put_getElem {a : Act} {d : Option Tmp} {v : Value} {t : Tmp} (h : d ≠ some t) : (a.put d v).tmps[t]? = a.tmps[t]? := by
  cases d with
  | none => rfl
  | some e =>
    have hne : e ≠ t := fun x => h (x ▸ rfl)
    simp [Act.put, Array.getElem?_setIfInBounds_ne hne]

/-- The walk goes through somehow, and slots that it does not fill stay. -/
theorem list_some {K : Act → World → Prop} : ∀ (l : List Oper) (a : Act) (w : World), wpList P ops (Exit.then K NoQ) l a w →
    ∃ a' w', K a' w' ∧ ∀ t, t ∉ dsts l → a'.tmps[t]? = a.tmps[t]?
  | [], a, w, h => ⟨a, w, h, fun _ _ => rfl⟩
  | o :: l, a, w, h => by
    have hd : ∀ t, t ∉ dsts (o :: l) → o.dst ≠ some t ∧ t ∉ dsts l := by
      intro t ht
      unfold dsts at ht
      rw [List.filterMap_cons] at ht
      split at ht
      · rename_i e; exact ⟨by rw [e]; simp, ht⟩
      · rename_i d e
        rw [List.mem_cons] at ht
        exact ⟨by rw [e]; simp only [ne_eq, Option.some.injEq]; exact fun x => ht (.inl x.symm), fun x => ht (.inr x)⟩
    have := list_cons h
    split at this
    · obtain ⟨a1, w1, u, ha, h1⟩ := wp_some this
      obtain ⟨a2, w2, hK, hs⟩ := list_some l a1 w1 h1
      refine ⟨a2, w2, hK, fun t ht => ?_⟩
      rw [hs t (hd t ht).2, ha, put_getElem (hd t ht).1]
    · obtain ⟨a2, w2, hK, hs⟩ := list_some l _ _ this
      refine ⟨a2, w2, hK, fun t ht => ?_⟩
      rw [hs t (hd t ht).2, put_getElem (hd t ht).1]

/-- The slots by which 'condB' is decided, and the guard's. -/
def needs (ops : Array Oper) (o : Oper) : List Tmp :=
  (match o.op with
   | .binOp .. | .nilCheck _ | .call _ => o.op.operands.toList.filterMap fun | .tmp t => some t | _ => none
   | .slice _ x _ _ _ => [x].filterMap fun | .tmp t => some t | _ => none
   | .load _ x => [x].filterMap fun | .tmp t => some t | _ => none
   | _ => []) ++
  (match o.guard with
   | some (g, _) => ((ops[g]?).bind (·.dst)).toList
   | none => [])

theorem eval_same {a a' : Act} {x : Operand} (h : ∀ t, x = .tmp t → a'.tmps[t]? = a.tmps[t]?) : a'.eval x = a.eval x := by
  cases x with
  | tmp t => simp only [Act.eval, Array.getD_eq_getD_getElem?, h t rfl]
  | _ => rfl

theorem wanted_same (o : Oper) {a a' : Act} (h : ∀ t ∈ needs ops o, a'.tmps[t]? = a.tmps[t]?) : Region.wanted o (yielded ops a'.tmps) = Region.wanted o (yielded ops a.tmps) := by
  unfold Region.wanted
  cases hg : o.guard with
  | none => rfl
  | some gw =>
    obtain ⟨g, want⟩ := gw
    have : yielded ops a'.tmps g = yielded ops a.tmps g := by
      unfold yielded
      cases ht : (ops[g]?).bind (·.dst) with
      | none => rfl
      | some t =>
        have : t ∈ needs ops o := by
          unfold needs
          rw [List.mem_append]
          refine .inr ?_
          simp [hg, ht]
        simp only [Option.bind_some, h t this]
    simp only [this]

theorem cond_same (o : Oper) (hp : pureOp o.op = true) {a a' : Act} (h : ∀ t ∈ needs ops o, a'.tmps[t]? = a.tmps[t]?) : condB o a' = condB o a := by
  obtain ⟨dst, op, type, pos, after, guard⟩ := o
  have key : ∀ x : Operand, (∀ t, x = .tmp t → t ∈ needs ops ⟨dst, op, type, pos, after, guard⟩) → a'.eval x = a.eval x := fun x hx => eval_same fun t ht => h t (hx t ht)
  cases op <;> (try (simp [pureOp] at hp; done)) <;> (try rfl)
  case nilCheck x => simp only [condB]; rw [key x (fun t ht => by subst ht; simp [needs, Op.operands])]
  case binOp op t x y u =>
    simp only [condB]
    rw [key x (fun t ht => by subst ht; simp [needs, Op.operands]), key y (fun t ht => by subst ht; simp [needs, Op.operands])]
  case slice t x lo hi mx => simp only [condB]; rw [key x (fun t ht => by subst ht; simp [needs])]
  case call c =>
    simp only [condB]
    congr 1
    refine List.map_congr_left fun x hx => key x fun t ht => ?_
    subst ht
    unfold needs
    rw [List.mem_append]
    refine .inl ?_
    simp only [Op.operands, Call.operands]
    rw [List.mem_filterMap]
    exact ⟨.tmp t, by simp at hx ⊢; exact .inr hx, rfl⟩

/-- THE CHECK for the way from the walk's list: what 'condB' looks at is not filled any more. -/
def entryB (P : Program) (ops : Array Oper) : List Oper → Bool
  | [] => true
  | o :: l => (needs ops o).all (fun t => !(dsts (o :: l)).contains t) && (!pureOp o.op || fieldOK P o) && entryB P ops l

/-- At the end: every pure operation that ran had fit operands. -/
def endB (ops : Array Oper) (a : Act) : Bool := ops.toList.all fun o => !Region.wanted o (yielded ops a.tmps) || !pureOp o.op || condB o a

theorem needs_stay {o : Oper} {l : List Oper} (h : (needs ops o).all (fun t => !(dsts (o :: l)).contains t) = true) : ∀ t ∈ needs ops o, t ∉ dsts (o :: l) := by
  intro t ht
  have := (List.all_eq_true.1 h) t ht
  simpa using this

theorem cond_here {K : Act → World → Prop} {o : Oper} {l : List Oper} {a : Act} {w : World} (hmem : o ∈ ops.toList) (hn : (needs ops o).all (fun t => !(dsts (o :: l)).contains t) = true)
    (hp : pureOp o.op = true) (hw : Region.wanted o (yielded ops a.tmps) = true) (h : wpList P ops (Exit.then (fun a' w' => endB ops a' = true ∧ K a' w') NoQ) (o :: l) a w) : condB o a = true := by
  obtain ⟨a', w', ⟨he, _⟩, hs⟩ := list_some _ _ _ h
  have hsame : ∀ t ∈ needs ops o, a'.tmps[t]? = a.tmps[t]? := fun t ht => hs t (needs_stay hn t ht)
  have := (List.all_eq_true.1 he) o hmem
  rw [wanted_same o hsame, cond_same o hp hsame, hw, hp] at this
  simpa using this

/-- Nothing is held: no load beside an operation that acts. -/
theorem chain_of_list {K : Act → World → Prop} : ∀ (l : List Oper) (k : Nat), (∀ j, l[j]? = ops[k + j]?) → entryB P ops l = true → ∀ (a : Act) (w : World),
    wpList P ops (Exit.then (fun a' w' => endB ops a' = true ∧ K a' w') NoQ) l a w → chain P ops (fun _ => False) (fun _ => false) K (List.range' k l.length) a w
  | [], k, _, _, a, w, h => h.2
  | o :: l, k, hl, hE, a, w, h => by
    have h0 : ops[k]? = some o := by simpa using (hl 0).symm
    have hmem : o ∈ ops.toList := by
      have := List.mem_of_getElem? (l := ops.toList) (i := k) (a := o) (by simpa using h0)
      exact this
    simp only [entryB, Bool.and_eq_true] at hE
    obtain ⟨⟨hn, hf⟩, hE'⟩ := hE
    have ih := chain_of_list (K := K) l (k + 1) (fun j => by have := hl (j + 1); simpa [Nat.add_assoc, Nat.add_comm 1 j] using this) hE'
    have hc := list_cons h
    simp only [List.length_cons, List.range'_succ, chain]
    unfold T
    simp only [h0]
    cases hq : quietB o with
    | true =>
      simp only [if_true]
      cases hw : Region.wanted o (yielded ops a.tmps) with
      | false =>
        simp only [hw, Bool.false_eq_true, if_false] at hc
        exact ⟨undef, .inr ⟨hw, rfl⟩, ih _ _ hc⟩
      | true =>
        simp only [hw, if_true] at hc
        cases hp : pureOp o.op with
        | true =>
          obtain ⟨v, hv, hK⟩ := pure_all hp (by simpa [hp] using hf) (cond_here hmem hn hp hw h) hc
          exact ⟨v, .inl ⟨hw, fun w' _ => hv w'⟩, ih _ _ hK⟩
        | false =>
          have hld : loadOp o.op = true := by simpa [quietB, hp] using hq
          obtain ⟨v, hv, hK⟩ := load_here hld hc
          refine ⟨v, .inl ⟨hw, fun w' hR => ?_⟩, ih _ _ hK⟩
          simp only [Rof, hp, Bool.false_eq_true, if_false] at hR
          rw [hR]
          exact hv
    | false =>
      simp only [Bool.false_eq_true, if_false]
      cases hw : Region.wanted o (yielded ops a.tmps) with
      | false =>
        simp only [hw, Bool.false_eq_true, if_false] at hc
        exact ih _ _ hc
      | true =>
        simp only [hw, if_true] at hc
        exact Oper.wp_mono (fun a' w' h' => ⟨fun b hb => hb.elim, ih _ _ h'⟩) hc

/-- All checks of a region at once. -/
def okB (P : Program) (l : List Oper) : Bool :=
  let ops := l.toArray
  let cl := Region.before ops
  P.follows .mixedOrders && certB ops cl && pairsB (fun _ => false) ops cl && entryB P ops l

/-- **A REGION THAT DRAWS, WALKED IN THE ORDER OF THE TEXT** -/
theorem region_text {id : Nat} {l : List Oper} {Q : Exit → Act → World → Prop} {a : Act} {w : World} (hok : okB P l = true)
    (h : wpList P l.toArray (Exit.then (fun a' w' => endB l.toArray a' = true ∧ Q .normal a' w') NoQ) l a w.drew) : (Code.region id l.toArray true).wp P Q a w := by
  simp only [okB, Bool.and_eq_true] at hok
  obtain ⟨⟨⟨hm, hc⟩, hp⟩, hE⟩ := hok
  refine region_of_chain (K := fun a' w' => Q .normal a' w') (S := fun _ => False) (held := fun _ => false) hm hc hp (fun _ _ h => h) ?_
  have := chain_of_list (P := P) (ops := l.toArray) (K := fun a' w' => Q .normal a' w') l 0 (by simp) hE a _ h
  rw [List.range_eq_range']
  simpa using this

end
end Go.Proofs.YbyabwGreat.Dr
