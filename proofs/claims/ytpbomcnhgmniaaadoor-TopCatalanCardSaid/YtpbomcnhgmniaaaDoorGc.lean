/- Calls, regions, functions: part 1. -/
import Derived.Test.YtpbomcnhgmniaaaDoorGb
section
namespace Go.A
/-! ### What a call does -/
inductive AOut where
  | ret (v : AV)
  | panic (v : AV)
def OutR (κ : Kap) : AOut → Ending → Prop
  | .ret v, .returned V => VR κ v V
  | .panic v, .panicked chain => ∃ V, chain = [{ v := V, recovered := false }] ∧ VR κ v V
  | _, _ => False
structure Keep (κ : Kap) (M : Mem) (κ' : Kap) (M' : Mem) : Prop where
  kap : ∀ B, B < M.next → κ' B = κ B
  hole : ∀ B, B < M.next → M.get B = none → M'.get B = none
theorem Keep.refl (κ : Kap) (M : Mem) : Keep κ M κ M := ⟨fun _ _ => rfl, fun _ _ h => h⟩
theorem Keep.trans {κ κ₁ κ₂ : Kap} {M M₁ M₂ : Mem} (h : Keep κ M κ₁ M₁) (h' : Keep κ₁ M₁ κ₂ M₂) (hn : M.next ≤ M₁.next) : Keep κ M κ₂ M₂ :=
  ⟨fun B hB => (h'.kap B (by omega)).trans (h.kap B hB), fun B hB hg => h'.hole B (by omega) (h.hole B hB hg)⟩
/-- The state of the world, the placement and the abstract memory moved on together. -/
structure Mv (κ : Kap) (M : Mem) (w : World) (κ' : Kap) (M' : Mem) (w' : World) : Prop where
  st : Step κ M w κ' M' w'
  keep : Keep κ M κ' M'
theorem Mv.refl {κ : Kap} {M : Mem} {w : World} (h : Rel κ M w) : Mv κ M w κ M w := ⟨Step.refl h, Keep.refl _ _⟩
theorem Mv.trans {κ κ₁ κ₂ : Kap} {M M₁ M₂ : Mem} {w w₁ w₂ : World} (h : Mv κ M w κ₁ M₁ w₁) (h' : Mv κ₁ M₁ w₁ κ₂ M₂ w₂) : Mv κ M w κ₂ M₂ w₂ :=
  ⟨h.st.trans h'.st, h.keep.trans h'.keep h.st.own.next⟩
/-- What stands behind a call. -/
def Post (κ : Kap) (M : Mem) (w : World) (Q : AOut → Mem → Prop) (e : Ending) (w' : World) : Prop :=
  ∃ κ' out M', Q out M' ∧ OutR κ' out e ∧ Mv κ M w κ' M' w'
theorem Post.mono {κ : Kap} {M : Mem} {w : World} {Q Q' : AOut → Mem → Prop} (h : ∀ o M', Q o M' → Q' o M') {e : Ending} {w' : World} : Post κ M w Q e w' → Post κ M w Q' e w' :=
  fun ⟨κ', out, M', a, b, c⟩ => ⟨κ', out, M', h _ _ a, b, c⟩
abbrev FW (rd : Option Nat) : Fence := { Fence.wide with round := rd }
def enters (P : Program) (f : FuncId) : Bool :=
  match P.funcs[f]? with
  | some fn => fn.body.isSome && !(fn.name == "runtime.NumGoroutine")
  | none => false
/-- A call of a function, by its number. -/
def CallF (P : Program) (f : FuncId) (args : List AV) (M : Mem) (Q : AOut → Mem → Prop) : Prop :=
  enters P f = true ∧ ∀ κ w (V : Array Value), Rel κ M w → VRs κ args V.toList → Calls P f V w (Post κ M w Q)
def InvR (P : Program) (κ : Kap) (M : Mem) (w : World) (Q : AOut → Mem → Prop) : Result Next → Prop
  | .ok (.enter g A) w₁ => w₁ = w ∧ Calls P g A w (Post κ M w Q)
  | .ok (.round l fn tmps assign body) w₁ => w₁ = w ∧ RoundIn (FW none) 0 P l fn tmps assign body w (Post κ M w Q)
  | .ok (.value v) w₁ => Post κ M w Q (.returned v) w₁
  | _ => False
/-- A call of a function value. -/
def CallV (P : Program) (f : AV) (args : List AV) (M : Mem) (Q : AOut → Mem → Prop) : Prop :=
  ∀ κ w Vf (V : Array Value), Rel κ M w → VR κ f Vf → VRs κ args V.toList → ∃ d, (Deferred.ofValue Vf V).run P w = .ok d w ∧ InvR P κ M w Q ((invoke d.target d.args).run P w)
theorem CallF.mono {P : Program} {f : FuncId} {args : List AV} {M : Mem} {Q Q' : AOut → Mem → Prop} (hq : ∀ o M', Q o M' → Q' o M') (h : CallF P f args M Q) : CallF P f args M Q' :=
  ⟨h.1, fun κ w V hr hv => (h.2 κ w V hr hv).mono fun _ _ => Post.mono hq⟩
theorem CallV.mono {P : Program} {f : AV} {args : List AV} {M : Mem} {Q Q' : AOut → Mem → Prop} (hq : ∀ o M', Q o M' → Q' o M') (h : CallV P f args M Q) : CallV P f args M Q' := by
  intro κ w Vf V hr hf hv
  obtain ⟨d, h1, h2⟩ := h κ w Vf V hr hf hv
  refine ⟨d, h1, ?_⟩
  unfold InvR at h2 ⊢
  split at h2
  · exact ⟨h2.1, h2.2.mono fun _ _ => Post.mono hq⟩
  · exact ⟨h2.1, h2.2.mono fun _ _ => Post.mono hq⟩
  · exact Post.mono hq h2
  · exact h2.elim
theorem CallV.fn {P : Program} {g : FuncId} {first cap args : List AV} {M : Mem} {Q : AOut → Mem → Prop} (h : CallF P g (first ++ args ++ cap) M Q) : CallV P (.fn (.func g) first cap) args M Q := by
  intro κ w Vf V hr hf hv
  cases hf with
  | fn _ _ _ L C hl hc =>
    refine ⟨_, rfl, ?_⟩
    obtain ⟨he, h⟩ := h
    have hrun : (invoke (.fn (.func g) C) (L ++ V)).run P w = .ok (.enter g (L ++ V ++ C)) w := by
      unfold enters at he
      simp only [invoke, callFunc, Sem.run_bind, run_program, Result.andThen_ok]
      cases hf : P.funcs[g]? with
      | none => rw [hf] at he; cases he
      | some fn =>
        rw [hf] at he
        simp only [Bool.and_eq_true, Bool.not_eq_true'] at he
        have hn : fn.body.isNone = false := by cases hb : fn.body <;> simp_all
        simp [he.2, hn]
    show InvR P κ M w Q ((invoke (.fn (.func g) C) (L ++ V)).run P w)
    rw [hrun]
    exact ⟨rfl, h κ w _ hr (by simpa using (hl.append hv).append hc)⟩
/-! ### States -/
inductive ADef where
  | call (f : AV) (args : List AV)
  | mark (r : Nat)
structure St where
  regs : Nat → AV
  mem : Mem
  dfr : List ADef
def St.put (s : St) (d : Option Nat) (v : AV) : St :=
  match d with
  | none => s
  | some d => { s with regs := fun t => if t = d then v else s.regs t }
inductive DefR (κ : Kap) : ADef → Deferred → Prop
  | call (f : FuncId) (l c args : List AV) (C A : Array Value) (hc : VRs κ c C.toList) (ha : VRs κ (l ++ args) A.toList) : DefR κ (.call (.fn (.func f) l c) args) { target := .fn (.func f) C, args := A }
  | mark (r : Nat) (k : K) (h : κ r = some k) : DefR κ (.mark r) { target := .collected k.blk, args := #[] }
theorem DefR.mono {κ κ' : Kap} (hk : κ.le κ') {d : ADef} {D : Deferred} (h : DefR κ d D) : DefR κ' d D := by
  cases h with
  | call f l c args C A hc ha => exact .call f l c args C A (hc.mono hk) (ha.mono hk)
  | mark r k h => exact .mark r k (hk _ _ h)
/-- The state of an activation. -/
structure StR (κ : Kap) (N : Nat) (s : St) (a : Act) (w : World) : Prop where
  rel : Rel κ s.mem w
  size : a.tmps.size = N
  regs : RR κ s.regs a.tmps
  dfr : L2 (DefR κ) s.dfr a.defers
theorem StR.put {κ : Kap} {N : Nat} {s : St} {a : Act} {w : World} (h : StR κ N s a w) {d : Option Nat} (hd : ∀ t, d = some t → t < N) {v : AV} {V : Value} (hv : VR κ v V) : StR κ N (s.put d v) (a.put d V) w := by
  cases d with
  | none => exact h
  | some d =>
    refine ⟨h.rel, by simpa [Act.put] using h.size, ?_, h.dfr⟩
    intro i
    have hlt := hd d rfl
    simp only [St.put, Act.put]
    by_cases e : i = d
    · subst e
      have : (a.tmps.setIfInBounds i V).getD i undef = V := by
        have hs : i < a.tmps.size := by rw [h.size]; exact hlt
        simp [Array.getD_eq_getD_getElem?, hs]
      simp only [if_true]
      rw [this]; exact hv
    · have : (a.tmps.setIfInBounds d V).getD i undef = a.tmps.getD i undef := by
        simp [Array.getD_eq_getD_getElem?, Ne.symm e]
      simp only [if_neg e]
      rw [this]; exact h.regs i
/-! ### Operations in a region -/
inductive LOp where
  | p (q : POp)
  | m (q : MOp)
  | call (f : Opd) (args : List Opd)
  | panic (x : Opd)
  | defer (f : Opd) (args : List Opd)
  | fl (n : Option Nat) (x : Opd)
  deriving Inhabited
structure LOper where
  dst : Option Nat
  guard : Option (Option Nat × Bool)
  op : LOp
  deriving Inhabited
def wantedA (r : Nat → AV) : Option (Option Nat × Bool) → Option Bool
  | none => some true
  | some (none, _) => some false
  | some (some t, want) => match r t with
    | .bool b => some (b == want)
    | .tup [] => some false
    | _ => none
def lowOp (P : Program) (o : Oper) : Option LOp :=
  match lowP P o with
  | some q => some (.p q)
  | none => match lowM P o with
    | some q => some (.m q)
    | none => match o.op with
      | .call { callee := .value f, args, .. } => match lowOpd f, lowOpds args.toList with
        | some g, some l => some (.call g l)
        | _, _ => none
      | .panic x => (lowOpd x).map .panic
      | .defer { callee := .value f, args, .. } => match lowOpd f, lowOpds args.toList with
        | some g, some l => some (.defer g l)
        | _, _ => none
      | _ => none
/-- An operation that uses no number of its own. -/
def LOper.noid (o : LOper) : Bool :=
  match o.op with
  | .m q => q.noid
  | _ => true
def dstOK (N : Nat) : Option Nat → Bool
  | some d => decide (d < N)
  | none => true
def lowO (P : Program) (N : Nat) (ops : Array Oper) (o : Oper) : Option LOper :=
  match lowOp P o with
  | some q => if dstOK N o.dst then some { dst := o.dst, guard := o.guard.map fun g => ((ops[g.1]?).bind (·.dst), g.2), op := q } else none
  | none => none
def aop1 (P : Program) (base : Nat) (Qp : AV → St → Prop) (i : Nat) (o : LOper) (K : St → Prop) (s : St) : Prop :=
  match wantedA s.regs o.guard with
  | none => False
  | some false => K (s.put o.dst (.tup []))
  | some true => match o.op with
    | .p q => match pop (fun x => x.ev s.regs) q with
      | some v => K (s.put o.dst v)
      | none => False
    | .m q => match mop (base + i) (fun x => x.ev s.regs) s.mem q with
      | some (v, M') => K (St.put { s with mem := M' } o.dst v)
      | none => False
    | .call f args => CallV P (f.ev s.regs) (args.map (fun x => x.ev s.regs)) s.mem fun out M' => match out with
      | .ret v => K (St.put { s with mem := M' } o.dst v)
      | .panic v => Qp v { s with mem := M' }
    | .panic x => match x.ev s.regs with
      | .ifc t v => Qp (.ifc t v) s
      | _ => False
    | .defer f args => match f.ev s.regs with
      | .fn (.func g) l c => K (St.put { s with dfr := .call (.fn (.func g) l c) (args.map (fun x => x.ev s.regs)) :: s.dfr } o.dst (.tup []))
      | _ => False
    | .fl _ _ => False
def aops (P : Program) (base : Nat) (Qp : AV → St → Prop) : List (Nat × LOper) → (St → Prop) → St → Prop
  | [], K, s => K s
  | (i, o) :: rest, K, s => aop1 P base Qp i o (aops P base Qp rest K) s
/-! ### They are sound -/
section
variable {P : Program}
theorem yielded_sound {κ : Kap} {N : Nat} {s : St} {a : Act} {w : World} (h : StR κ N s a w) (_hN : True) (ops : Array Oper) (o : Oper) {b : Bool}
    (hb : wantedA s.regs (o.guard.map fun g => ((ops[g.1]?).bind (·.dst), g.2)) = some b) (hdst : ∀ (j t : Nat), (ops[j]?).bind Oper.dst = some t → t < N) : Region.wanted o (yielded ops a.tmps) = b := by
  unfold Region.wanted
  cases hg : o.guard with
  | none => rw [hg] at hb; simp [wantedA] at hb; simpa using hb
  | some g =>
    obtain ⟨j, want⟩ := g
    rw [hg] at hb
    simp only [Option.map_some] at hb
    simp only
    unfold yielded
    cases hd : (ops[j]?).bind (·.dst) with
    | none =>
      rw [hd] at hb
      simp [wantedA] at hb
      subst hb
      simp
    | some t =>
      rw [hd] at hb
      simp only [wantedA] at hb
      have hr := h.regs t
      have hlt := hdst j t hd
      have hget : a.tmps[t]? = some (a.tmps.getD t undef) := by
        have hs : t < a.tmps.size := by rw [h.size]; exact hlt
        simp [Array.getD_eq_getD_getElem?, hs]
      simp only [Option.bind_some, hget]
      generalize a.tmps.getD t undef = V at hr ⊢
      split at hb
      · rename_i c hc
        rw [hc] at hr
        cases hr
        simp at hb; subst hb
        cases c <;> cases want <;> rfl
      · rename_i hc
        rw [hc] at hr
        cases hr with
        | tup _ L hL =>
          cases hb
          simp
      · cases hb
theorem or_of {κ : Kap} {N : Nat} {s : St} {a : Act} {w : World} (h : StR κ N s a w) : OR κ (fun x => x.ev s.regs) a.eval := fun _ _ hx => opd_VR h.regs hx
/-- What one operation leaves. -/
def After (κ : Kap) (M : Mem) (w : World) (id : Nat) (nid : Bool) (N : Nat) (K : St → Prop) (a' : Act) (w' : World) : Prop :=
  ∃ κ' s', K s' ∧ StR κ' N s' a' w' ∧ Step κ M w κ' s'.mem w' ∧ (∀ B, B < M.next → (B ≠ id ∨ nid = true) → κ' B = κ B) ∧ (∀ B, B < M.next → (B ≠ id ∨ nid = true) → M.get B = none → s'.mem.get B = none)
end
end Go.A
end
