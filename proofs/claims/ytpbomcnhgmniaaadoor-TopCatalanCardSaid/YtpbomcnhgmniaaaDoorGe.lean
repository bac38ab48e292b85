/- The evaluator is sound; calls on plain data. -/
import Derived.Test.YtpbomcnhgmniaaaDoorGd
section
namespace Go.E
open Go.A
/-- Where a temporary is: a slot, a local (counted from the first), a constant. -/
inductive COpd where
  | s (i : Nat)
  | a (k : Nat)
  | c (v : EV)
def COpd.low (c : Nat) : COpd → EOpd
  | .s i => .s (i / 8) (f8of (i % 8))
  | .a k => .l (c - 1 - k)
  | .c v => .c v
def COpd.ok (c : Nat) : COpd → Prop
  | .a k => k < c
  | _ => True
abbrev Sig := List (Nat × COpd)
def sget : Sig → Nat → Option COpd
  | [], _ => none
  | (t, x) :: l, u => if t = u then some x else sget l u
def csig (σ : Sig) : Opd → Option COpd
  | .t n => sget σ n
  | .c v => some (.c (ofAV v))
def sigOf (σ : Sig) (c : Nat) : Sg := fun x => (csig σ x).map (COpd.low c)
def sput (σ : Sig) (d : Option Nat) (x : COpd) : Sig :=
  match d with
  | some d => (d, x) :: σ
  | none => σ
inductive ER where
  | nil
  | op (e : EOp) (r : ER)
  | gop (x : EOpd) (want : Bool) (e : EOp) (r : ER)
  deriving Inhabited
def compR : Sig → Nat → List LOper → Option (ER × Sig × Nat)
  | σ, c, [] => some (.nil, σ, c)
  | σ, c, o :: rest =>
    match o.guard with
    | none => match o.op with
      | .p (.mv x) => match csig σ x with
        | some x => compR (sput σ o.dst x) c rest
        | none => none
      | q => match compO (sigOf σ c) q, compR (sput σ o.dst (.a c)) (c + 1) rest with
        | some e, some (r, σ', c') => some (.op e r, σ', c')
        | _, _ => none
    | some (some t, w) => if o.noid = false then none else match sget σ t, compO (sigOf σ c) o.op, compR (sput σ o.dst (.a c)) (c + 1) rest with
      | some x, some e, some (r, σ', c') => some (.gop (x.low c) w e r, σ', c')
      | _, _, _ => none
    | some (none, _) => none
noncomputable section
def isNilL (l : List EV) : Bool := List.rec (motive := fun _ => Bool) true (fun _ _ _ => false) l
/-- Whether an operation under a guard is wanted. -/
def wantK (x : EV) (w : Bool) (yes no : Bool) : Bool := x.boolD (fun b => bt (Bool.xor b w) no yes) (x.tupD (fun l => bt (isNilL l) no false) false)
def evR (r : ER) : HC → EN → List EV → EM → (List EV → EM → Bool) → Bool :=
  ER.rec (motive := fun _ => HC → EN → List EV → EM → (List EV → EM → Bool) → Bool) (fun _ _ L M K => K L M)
    (fun e _ ih H env L M K => eopF e H env L M fun v M => ih H env (v :: L) M K)
    (fun x w e _ ih H env L M K => wantK (x.ev env L) w (eopF e H env L M fun v M => ih H env (v :: L) M K) (ih H env (.tup [] :: L) M K)) r
end
/-- The temporaries that are followed. -/
def Agr (σ : Sig) (c : Nat) (env : EN) (L : List EV) (r : Nat → AV) : Prop := ∀ t x, sget σ t = some x → x.ok c ∧ ((x.low c).ev env L).toAV = r t
section
variable {P : Program} {H : HC} {env : EN} {L : List EV} {M : EM} {Qp : AV → St → Prop}
theorem low_push {x : COpd} {c : Nat} (h : x.ok c) (v : EV) : (x.low (c + 1)).ev env (v :: L) = (x.low c).ev env L := by
  cases x with
  | s i => rfl
  | a k =>
    have hk : k < c := h
    show getL (v :: L) (c + 1 - 1 - k) = getL L (c - 1 - k)
    rw [show c + 1 - 1 - k = (c - 1 - k) + 1 from by omega]; rfl
  | c v => rfl
theorem ok_push {x : COpd} {c : Nat} (h : x.ok c) : x.ok (c + 1) := by
  cases x with
  | a k => exact Nat.lt_succ_of_lt h
  | _ => trivial
theorem Agr.sig {σ : Sig} {c : Nat} {r : Nat → AV} (h : Agr σ c env L r) : SigOK (sigOf σ c) (fun x => x.ev r) env L := by
  intro x y hxy
  unfold sigOf at hxy
  simp only [Option.map_eq_some_iff] at hxy
  obtain ⟨z, hz, rfl⟩ := hxy
  cases x with
  | t n => exact ((h n z hz).2).symm
  | c v =>
    simp only [csig, Option.some.injEq] at hz
    subst hz
    show v = (ofAV v).toAV
    rw [toAV_ofAV]
/-- A value is pushed for an operation's result. -/
theorem Agr.push {σ : Sig} {c : Nat} {s : St} (h : Agr σ c env L s.regs) (d : Option Nat) (v : EV) : Agr (sput σ d (.a c)) (c + 1) env (v :: L) (s.put d v.toAV).regs := by
  have old : ∀ t x, sget σ t = some x → x.ok (c + 1) ∧ ((x.low (c + 1)).ev env (v :: L)).toAV = s.regs t := fun t x hx => by
    obtain ⟨h1, h2⟩ := h t x hx
    exact ⟨ok_push h1, by rw [low_push h1]; exact h2⟩
  cases d with
  | none => exact old
  | some d =>
    intro t x hx
    simp only [sput, sget] at hx
    simp only [St.put]
    split at hx
    · rename_i e
      subst e
      cases hx
      refine ⟨Nat.lt_succ_self c, ?_⟩
      rw [if_pos rfl]
      show (getL (v :: L) (c + 1 - 1 - c)).toAV = _
      rw [show c + 1 - 1 - c = 0 from by omega]; rfl
    · rename_i e
      rw [if_neg (Ne.symm e)]
      exact old t x hx
/-- A value that is there already is followed under one more name. -/
theorem Agr.alias {σ : Sig} {c : Nat} {s : St} (h : Agr σ c env L s.regs) (d : Option Nat) {x : Opd} {y : COpd} (hx : csig σ x = some y) : Agr (sput σ d y) c env L (s.put d (x.ev s.regs)).regs := by
  cases d with
  | none => exact h
  | some d =>
    intro t z hz
    simp only [sput, sget] at hz
    simp only [St.put]
    split at hz
    · rename_i e
      subst e
      cases hz
      rw [if_pos rfl]
      cases x with
      | t n => exact h n _ hx
      | c v =>
        simp only [csig, Option.some.injEq] at hx
        subst hx
        refine ⟨trivial, ?_⟩
        show (ofAV v).toAV = v
        rw [toAV_ofAV]
    · rename_i e
      rw [if_neg (Ne.symm e)]
      exact h t z hz
theorem isNilL_eq {l : List EV} (h : isNilL l = true) : l = [] := by cases l <;> first | rfl | cases h
theorem wantK_spec {x : EV} {w yes no : Bool} (h : wantK x w yes no = true) {r : Nat → AV} {t : Nat} (hx : x.toAV = r t) : (wantedA r (some (some t, w)) = some true ∧ yes = true) ∨ (wantedA r (some (some t, w)) = some false ∧ no = true) := by
  unfold wantK at h
  replace h := boolD_spec h; rcases h with ⟨b, rfl, h⟩ | h
  · have e : wantedA r (some (some t, w)) = some (b == w) := by simp only [wantedA, ← hx, EV.toAV]
    rw [e]
    cases b <;> cases w <;> first | exact .inl ⟨rfl, h⟩ | exact .inr ⟨rfl, h⟩
  · replace h := tupD_spec h; rcases h with ⟨l, rfl, h⟩ | h
    · replace h := bt_spec h; rcases h with ⟨hl, h⟩ | ⟨_, h⟩
      · rw [isNilL_eq hl] at hx
        have e : wantedA r (some (some t, w)) = some false := by simp only [wantedA, ← hx, EV.toAV, EV.toAVs]
        exact .inr ⟨e, h⟩
      · cases h
    · cases h
/-- One wanted operation. -/
theorem opG_aopN {q : LOper} {s : St} {K : KM} {Kp : St → Prop} (hw : wantedA s.regs q.guard = some true) (hm : s.mem = M.toMem) (h : OpG P q.op (fun x => x.ev s.regs) M K)
    (hK : ∀ (v : EV) (M' : EM), K v M' = true → Kp (St.put { s with mem := M'.toMem } q.dst v.toAV)) : aopN P Qp q Kp s := by
  obtain ⟨dst, guard, op⟩ := q
  simp only at hw h hK
  cases op with
  | p q =>
    obtain ⟨r, M', h1, h2⟩ := h
    simp only [opA, Option.map_eq_some_iff] at h1
    obtain ⟨v, h1, h3⟩ := h1
    simp only [Prod.mk.injEq] at h3
    obtain ⟨rfl, h3⟩ := h3
    simp only [aopN, LOper.noid, if_true, aop1, hw, h1]
    have := hK r M' h2
    rw [← h3, ← hm] at this
    exact this
  | m q =>
    obtain ⟨r, M', h1, h2⟩ := h
    simp only [opA] at h1
    by_cases hn : q.noid = true
    · rw [if_pos hn] at h1
      simp only [aopN, LOper.noid, if_pos hn, aop1, hw, hm, Nat.add_zero, h1]
      exact hK r M' h2
    · rw [if_neg hn] at h1
      simp only [aopN, LOper.noid, if_neg hn, aop1, St.bump, hw, hm, Nat.add_zero, h1]
      exact hK r M' h2
  | call f args =>
    have h' : CallV P (f.ev s.regs) (args.map fun x => x.ev s.regs) M.toMem (RetK K) := h
    simp only [aopN, LOper.noid, if_true, aop1, hw]
    rw [hm]
    refine h'.mono ?_
    rintro out M' ⟨v, M₁, rfl, rfl, hk⟩
    exact hK v M₁ hk
  | panic x => obtain ⟨r, M', h1, _⟩ := h; cases h1
  | defer f l => obtain ⟨r, M', h1, _⟩ := h; cases h1
  | fl n x => obtain ⟨r, M', h1, _⟩ := h; cases h1
theorem unwanted_aopN {q : LOper} {s : St} {Kp : St → Prop} (hw : wantedA s.regs q.guard = some false) (hn : q.noid = true) (h : Kp (s.put q.dst (.tup []))) : aopN P Qp q Kp s := by
  simp only [aopN, if_pos hn, aop1, hw]
  exact h
end
end Go.E
end
section
namespace Go.E
open Go.A
section
variable {P : Program} {H : HC} {Qp : AV → St → Prop}
theorem compR_sound (hH : HSound P H) : ∀ (ops : List LOper) (σ : Sig) (c : Nat) (er : ER) (σ' : Sig) (c' : Nat), compR σ c ops = some (er, σ', c') →
    ∀ (env : EN) (L : List EV) (M : EM) (s : St) (K : List EV → EM → Bool) (Kp : St → Prop), Agr σ c env L s.regs → s.mem = M.toMem → evR er H env L M K = true →
      (∀ L' M' s', Agr σ' c' env L' s'.regs → s'.mem = M'.toMem → s'.dfr = s.dfr → K L' M' = true → Kp s') → aopsN P Qp ops Kp s := by
  intro ops
  induction ops with
  | nil =>
    intro σ c er σ' c' hc env L M s K Kp ha hm h hK
    simp only [compR, Option.some.injEq, Prod.mk.injEq] at hc
    obtain ⟨rfl, rfl, rfl⟩ := hc
    exact hK L M s ha hm rfl h
  | cons o rest ih =>
    intro σ c er σ' c' hc env L M s K Kp ha hm h hK
    obtain ⟨dst, guard, op⟩ := o
    show aopN P Qp ⟨dst, guard, op⟩ (aopsN P Qp rest Kp) s
    -- an operation that is evaluated
    have step : ∀ (e : EOp) (r : ER) (wr : wantedA s.regs guard = some true), compO (sigOf σ c) op = some e → compR (sput σ dst (.a c)) (c + 1) rest = some (r, σ', c') →
        (eopF e H env L M fun v M => evR r H env (v :: L) M K) = true → aopN P Qp ⟨dst, guard, op⟩ (aopsN P Qp rest Kp) s := by
      intro e r wr he hr hev
      have hg := compO_spec (P := P) hH ha.sig (fun v => rfl) he hev
      refine opG_aopN (q := ⟨dst, guard, op⟩) wr hm hg ?_
      intro v M' hk
      refine ih _ _ _ _ _ hr env (v :: L) M' _ K Kp ?_ ?_ hk ?_
      · exact Agr.push (s := { s with mem := M'.toMem }) ha dst v
      · rw [put_mem]
      · intro L' M'' s' h1 h2 h3 h4
        exact hK L' M'' s' h1 h2 (by rw [h3, put_dfr]) h4
    cases guard with
    | none =>
      have gen : (match compO (sigOf σ c) op, compR (sput σ dst (.a c)) (c + 1) rest with
        | some e, some (r, σ', c') => some (ER.op e r, σ', c')
        | _, _ => none) = some (er, σ', c') → aopN P Qp ⟨dst, none, op⟩ (aopsN P Qp rest Kp) s := by
        intro hc
        split at hc <;> cases hc
        rename_i e r he hr
        exact step e r rfl he hr h
      cases op with
      | p q =>
        cases q with
        | mv x =>
          simp only [compR] at hc
          split at hc
          · rename_i y hy
            simp only [aopN, LOper.noid, if_true, aop1, wantedA, pop]
            refine ih _ _ _ _ _ hc env L M _ K Kp (ha.alias dst hy) (by rw [put_mem]; exact hm) h ?_
            intro L' M' s' h1 h2 h3 h4
            exact hK L' M' s' h1 h2 (by rw [h3, put_dfr]) h4
          · cases hc
        | _ => exact gen hc
      | _ => exact gen hc
    | some g =>
      obtain ⟨t, w⟩ := g
      cases t with
      | none => simp [compR] at hc
      | some t =>
        simp only [compR] at hc
        split at hc
        · cases hc
        · rename_i hn
          split at hc <;> cases hc
          rename_i x e r hx he hr
          obtain ⟨hok, hxv⟩ := ha t x hx
          have h' : wantK ((x.low c).ev env L) w (eopF e H env L M fun v M => evR r H env (v :: L) M K) (evR r H env (.tup [] :: L) M K) = true := h
          rcases wantK_spec h' hxv with ⟨hw, h1⟩ | ⟨hw, h1⟩
          · exact step e r hw he hr h1
          · refine unwanted_aopN (q := ⟨dst, some (some t, w), op⟩) hw (by simpa using hn) ?_
            refine ih _ _ _ _ _ hr env (.tup [] :: L) M _ K Kp ?_ ?_ h1 ?_
            · exact Agr.push ha dst (.tup [])
            · rw [put_mem]; exact hm
            · intro L' M'' s' h1 h2 h3 h4
              exact hK L' M'' s' h1 h2 (by rw [h3, put_dfr]) h4
end
/-! ### Slots -/
def sig0 (i : Nat) : List Nat → Sig
  | [] => []
  | t :: l => (t, .s i) :: sig0 (i + 1) l
/-- The slots hold what the temporaries hold. -/
def AgrS (slots : List Nat) (env : EN) (r : Nat → AV) : Prop := ∀ i t, slots[i]? = some t → (getS env i).toAV = r t
theorem sig0_get : ∀ {l : List Nat} {i t : Nat} {x : COpd}, sget (sig0 i l) t = some x → ∃ j, l[j]? = some t ∧ x = .s (i + j)
  | [], i, t, x, h => by cases h
  | u :: l, i, t, x, h => by
    simp only [sig0, sget] at h
    split at h
    · rename_i e
      subst e
      cases h
      exact ⟨0, by simp, rfl⟩
    · obtain ⟨j, h1, h2⟩ := sig0_get h
      exact ⟨j + 1, by simpa using h1, by rw [h2, show i + 1 + j = i + (j + 1) from by omega]⟩
theorem AgrS.agr {slots : List Nat} {env : EN} {L : List EV} {r : Nat → AV} (h : AgrS slots env r) : Agr (sig0 0 slots) 0 env L r := by
  intro t x hx
  obtain ⟨j, h1, rfl⟩ := sig0_get hx
  refine ⟨trivial, ?_⟩
  rw [Nat.zero_add]
  exact h j t h1
def isSlot (i : Nat) : COpd → Bool
  | .s j => i == j
  | _ => false
/-- What is written back: slots and operands. -/
def wbOf (σ : Sig) (c : Nat) : Nat → List Nat → Option (List SI × List EOpd)
  | _, [] => some ([], [])
  | i, t :: l => match sget σ t, wbOf σ c (i + 1) l with
    | some x, some (is, xs) => some (if isSlot i x then (is, xs) else (siOf i :: is, x.low c :: xs))
    | _, _ => none
noncomputable section
def setAll (is : List SI) : List EV → EN → (EN → Bool) → Bool :=
  List.rec (motive := fun _ => List EV → EN → (EN → Bool) → Bool) (fun _ env K => K env) (fun i _ ih vs env K => List.rec (motive := fun _ => Bool) false (fun v vs _ => setI i v env fun env => ih vs env K) vs) is
def wbK (is : List SI) (xs : List EOpd) (env : EN) (L : List EV) (K : EN → Bool) : Bool := evL xs env L fun vs => setAll is vs env K
end
section
variable {env : EN} {L : List EV}
theorem wb_sound {σ : Sig} {c : Nat} {r : Nat → AV} {env₀ : EN} (ha : Agr σ c env₀ L r) : ∀ (slots : List Nat) (i : Nat) (is : List SI) (xs : List EOpd), wbOf σ c i slots = some (is, xs) →
    ∀ (env : EN) (K : EN → Bool), (∀ j, i ≤ j → getS env j = getS env₀ j) → setAll is (xs.map fun x => x.ev env₀ L) env K = true →
      ∃ env', K env' = true ∧ (∀ j, j < i → getS env' j = getS env j) ∧ (∀ j t, slots[j]? = some t → (getS env' (i + j)).toAV = r t)
  | [], i, is, xs, h, env, K, he, hk => by
    simp only [wbOf, Option.some.injEq, Prod.mk.injEq] at h
    obtain ⟨rfl, rfl⟩ := h
    exact ⟨env, hk, fun _ _ => rfl, fun j t h => by simp at h⟩
  | t :: l, i, is, xs, h, env, K, he, hk => by
    simp only [wbOf] at h
    split at h
    · rename_i x is' xs' hx hl
      obtain ⟨hok, hv⟩ := ha t x hx
      by_cases hs : isSlot i x = true
      · rw [if_pos hs] at h
        cases h
        obtain ⟨env', h1, h2, h3⟩ := wb_sound ha l (i + 1) _ _ hl env K (fun j hj => he j (by omega)) hk
        refine ⟨env', h1, fun j hj => h2 j (by omega), ?_⟩
        intro j u hj
        cases j with
        | zero =>
          simp at hj
          subst hj
          cases x with
          | s k =>
            simp only [isSlot, beq_iff_eq] at hs
            subst hs
            rw [Nat.add_zero, h2 i (by omega), he i (by omega)]
            exact hv
          | a k => cases hs
          | c v => cases hs
        | succ j =>
          simp at hj
          rw [show i + (j + 1) = i + 1 + j from by omega]
          exact h3 j u hj
      · rw [if_neg hs] at h
        cases h
        have hk' : setI (siOf i) ((x.low c).ev env₀ L) env (fun env => setAll is' (xs'.map fun x => x.ev env₀ L) env K) = true := hk
        obtain ⟨env1, h1, h2⟩ := setI_spec hk'
        obtain ⟨env', g1, g2, g3⟩ := wb_sound ha l (i + 1) _ _ hl env1 K (fun j hj => by rw [h2 j, if_neg (by omega)]; exact he j (by omega)) h1
        refine ⟨env', g1, fun j hj => by rw [g2 j (by omega), h2 j, if_neg (by omega)], ?_⟩
        intro j u hj
        cases j with
        | zero =>
          simp at hj
          subst hj
          rw [Nat.add_zero, g2 i (by omega), h2 i, if_pos rfl]
          exact hv
        | succ j =>
          simp at hj
          rw [show i + (j + 1) = i + 1 + j from by omega]
          exact g3 j u hj
    · cases h
theorem wbK_sound {σ : Sig} {c : Nat} {r : Nat → AV} {slots : List Nat} (ha : Agr σ c env L r) {is : List SI} {xs : List EOpd} (h : wbOf σ c 0 slots = some (is, xs)) {K : EN → Bool} (hk : wbK is xs env L K = true) :
    ∃ env', K env' = true ∧ AgrS slots env' r := by
  have h1 := evL_spec (xs := xs) hk
  obtain ⟨env', g1, _, g3⟩ := wb_sound ha slots 0 is xs h env K (fun _ _ => rfl) h1
  exact ⟨env', g1, fun i t hi => by have := g3 i t hi; rwa [Nat.zero_add] at this⟩
end
/-- A region is compiled: its operations, and what is written back. -/
def compReg (slots : List Nat) (ops : List LOper) : Option (ER × List SI × List EOpd) :=
  match compR (sig0 0 slots) 0 ops with
  | some (r, σ, c) => match wbOf σ c 0 slots with
    | some (is, xs) => some (r, is, xs)
    | none => none
  | none => none
theorem compReg_sound {P : Program} {H : HC} {Qp : AV → St → Prop} (hH : HSound P H) {slots : List Nat} {ops : List LOper} {r : ER} {is : List SI} {xs : List EOpd} (hc : compReg slots ops = some (r, is, xs))
    {env : EN} {M : EM} {s : St} {K : EN → EM → Bool} {Kp : St → Prop} (ha : AgrS slots env s.regs) (hm : s.mem = M.toMem)
    (h : (evR r H env [] M fun L M => wbK is xs env L fun env => K env M) = true)
    (hK : ∀ env' M' s', AgrS slots env' s'.regs → s'.mem = M'.toMem → s'.dfr = s.dfr → K env' M' = true → Kp s') : aopsN P Qp ops Kp s := by
  unfold compReg at hc
  split at hc
  · rename_i r' σ c hr
    split at hc <;> cases hc
    rename_i hw
    refine compR_sound hH ops _ _ _ _ _ hr env [] M s _ Kp ha.agr hm h ?_
    intro L' M' s' h1 h2 h3 h4
    obtain ⟨env', g1, g2⟩ := wbK_sound h1 hw h4
    exact hK env' M' s' g2 h2 h3 g1
  · cases hc
end Go.E
end
section
namespace Go.E
open Go.A
def wn (M : Mem) (n : Nat) : Mem := { M with next := n }
def wnr (n : Nat) (r : Option (AV × Mem)) : Option (AV × Mem) := r.map fun (v, M) => (v, wn M n)
theorem wn_get (M : Mem) (n b : Nat) : (wn M n).get b = M.get b := rfl
theorem wn_rd (M : Mem) (n b o : Nat) : (wn M n).rd b o = M.rd b o := rfl
theorem wn_rdn (M : Mem) (n b o k : Nat) : (wn M n).rdn b o k = M.rdn b o k := rfl
theorem wn_wrs (M : Mem) (n b o : Nat) (l : List AV) : (wn M n).wrs b o l = (M.wrs b o l).map (wn · n) := by
  unfold Mem.wrs
  rw [wn_get]
  split
  · split
    · rfl
    · rfl
  · rfl
theorem wn_ents (M : Mem) (n : Nat) (v : AV) : entsOf (wn M n) v = entsOf M v := rfl
theorem wn_asrc (es : Nat) (M : Mem) (n : Nat) (v : AV) : asrc es (wn M n) v = asrc es M v := rfl
theorem wn_set (M : Mem) (n b : Nat) (o : AObj) : (wn M n).set b o = wn (M.set b o) n := rfl
theorem wn_del (M : Mem) (n b : Nat) : (wn M n).del b = wn (M.del b) n := rfl
theorem aapp_next (id es bytes : Nat) (M : Mem) (n : Nat) (x : AV) (k : Nat) (l : List AV) : aapp id es bytes (wn M n) x k l = wnr n (aapp id es bytes M x k l) := by
  unfold aapp wnr
  cases x with
  | nilSlc =>
    simp only [wn_set]
    split
    · rfl
    · split <;> rfl
  | slc b o j c es' =>
    simp only [wn_get, wn_set, wn_del, wn_wrs]
    split
    · split
      · rfl
      · cases hb : M.get b with
        | none => rfl
        | some ob =>
          cases ob with
          | cells cs wr =>
            simp only
            split
            · cases c with
              | none =>
                simp only
                split
                · cases M.wrs b (o + j * es) l <;> rfl
                · split <;> rfl
              | some cap =>
                simp only
                split
                · cases M.wrs b (o + j * es) l <;> rfl
                · rfl
            · rfl
          | _ => rfl
    · rfl
  | _ => rfl
theorem mop_next (id : Nat) (ρ : Opd → AV) (M : Mem) (n : Nat) (q : MOp) : mop id ρ (wn M n) q = wnr n (mop id ρ M q) := by
  cases q with
  | box x => simp only [mop, wnr, wn_set]; split <;> rfl
  | zal z => rfl
  | bsl k es zero parts =>
    simp only [mop, wnr, wn_set]
    split
    · split <;> rfl
    · rfl
  | load x =>
    simp only [mop, wnr, wn_rd]
    split
    · rename_i b o _; cases M.rd b o <;> rfl
    · rfl
  | loadn k x =>
    simp only [mop, wnr, wn_rdn]
    split
    · rename_i b o _; cases M.rdn b o k <;> rfl
    · rfl
  | store k a x =>
    simp only [mop, wnr, wn_wrs]
    split
    · rename_i b o l _ _
      split
      · cases M.wrs b o l <;> rfl
      · rfl
    · rfl
  | mkm => rfl
  | mks es bytes zero l c =>
    simp only [mop, wnr, wn_set]
    split
    · split <;> rfl
    · rfl
  | sla k es lo hi x =>
    simp only [mop, wnr, wn_get]
    split
    · split
      · split <;> rfl
      · rfl
    · rfl
  | look kt zero ok m k =>
    simp only [mop, wnr, wn_ents]
    split
    · rfl
    · split
      · split <;> rfl
      · rfl
  | mup kt m k v =>
    simp only [mop, wnr, wn_get, wn_set]
    split
    · rfl
    · split
      · split
        · split
          · split
            · split <;> rfl
            · rfl
          · rfl
          · rfl
        · rfl
      · rfl
  | men kt zero m k =>
    simp only [mop, wnr, wn_get, wn_set]
    split
    · rfl
    · split
      · split
        · split
          · split
            · split <;> rfl
            · rfl
          · rfl
          · rfl
        · rfl
      · rfl
  | mst m s v =>
    simp only [mop, wnr, wn_get, wn_set]
    split
    · split
      · split <;> rfl
      · rfl
    · rfl
  | lenm m => simp only [mop, wnr, wn_ents]; split <;> rfl
  | app es bytes x y =>
    simp only [mop, wn_asrc, aapp_next]
    split
    · split <;> rfl
    · rfl
  | cpy es x y =>
    simp only [mop, wnr, wn_rdn, wn_wrs]
    split
    · split <;> rfl
    · split
      · split
        · rfl
        · split
          · split
            · rfl
            · split
              · split
                · simp only [Option.map_map]; rfl
                · rfl
              · rfl
          · rfl
        · split
          · split
            · rfl
            · simp only [Option.map_map]; rfl
          · rfl
        · rfl
      · rfl
    · rfl
  | b2s x =>
    simp only [mop, wnr, wn_rdn]
    split
    · rfl
    · split
      · split
        · rfl
        · split
          · rename_i l _; cases bytesOf l <;> rfl
          · rfl
      · rfl
    · rfl
  | s2b x =>
    simp only [mop, wnr, wn_set]
    split
    · split <;> rfl
    · rfl
  | rng x => simp only [mop, wnr, wn_set]; split <;> rfl
  | nxt x =>
    simp only [mop, wnr, wn_get, wn_set]
    split
    · split
      · split <;> rfl
      · rfl
    · rfl
end Go.E
end
section
namespace Go.E
open Go.A
inductive ED where
  | nil
  | op (g : Option (EOpd × Bool)) (id : Option Nat) (chk : List Nat) (e : EOp) (r : ED)
  deriving Inhabited
inductive ED1 where
  | nil (r : ED)
  | op (g : Option (EOpd × Bool)) (e : EOp) (r : ED1)
  | fl1 (tag : Nat) (x : EOpd) (r : ED1)
  | fln (tag n : Nat) (x : EOpd) (r : ED1)
  deriving Inhabited
abbrev SE := List (Nat × Nat × EV)
def toStab (S : SE) : Stab := S.map fun (b, o, v) => (b, o, v.toAV)
/-- Cells that stay, by the load that reads them. -/
abbrev ST := List (Nat × SE)
def Rof (S : ST) (j : Nat) : Stab := (S.filter fun x => x.1 == j).flatMap fun x => toStab x.2
def Sof (tab : List Nat) (S : ST) (i : Nat) : Stab := (S.filter fun x => x.1 != i && !anc tab i x.1).flatMap fun x => toStab x.2
noncomputable section
def optEq (a b : Option Nat) : Bool := Option.rec (motive := fun _ => Option Nat → Bool) (fun b => Option.rec (motive := fun _ => Bool) true (fun _ => false) b) (fun x b => Option.rec (motive := fun _ => Bool) false (fun y => Nat.beq x y) b) a b
/-- Values that are surely the same. -/
def evEq0 (x y : EV) : Bool :=
  x.natD (fun a => y.natD (fun b => Nat.beq a b) false) (x.u64D (fun a => y.u64D (fun b => Nat.beq a b) false) (x.bytD (fun a => y.bytD (fun b => Nat.beq a b) false) (x.boolD (fun a => y.boolD (fun b => bt a b (Bool.not b)) false)
    (x.ptrD (fun a o => y.ptrD (fun b p => bt (Nat.beq a b) (Nat.beq o p) false) false) (x.slcD (fun a o n c s => y.slcD (fun a' o' n' c' s' => bt (Nat.beq a a') (bt (Nat.beq o o') (bt (Nat.beq n n') (bt (optEq c c') (Nat.beq s s') false) false) false) false) false)
      (x.mapD (fun a => y.mapD (fun b => Nat.beq a b) false) (x.strD (fun l p => y.strD (fun l' p' => bt (Nat.beq l l') (Nat.beq p p') false) false) (x.nilsD (y.nilsD true false) false))))))))
def evEqL (l : List EV) : List EV → Bool := List.rec (motive := fun _ => List EV → Bool) (fun l' => List.rec (motive := fun _ => Bool) true (fun _ _ _ => false) l') (fun x _ ih l' => List.rec (motive := fun _ => Bool) false (fun y l' _ => bt (evEq0 x y) (ih l') false) l') l
def evEq (x y : EV) : Bool := x.fnD (fun f l c => y.fnD (fun f' l' c' => bt (Nat.beq f f') (bt (evEqL l l') (evEqL c c') false) false) false) (evEq0 x y)
def chkS (S : SE) (M : EM) (K : Bool) : Bool :=
  List.rec (motive := fun _ => EM → Bool → Bool) (fun _ K => K) (fun x _ ih M K => Prod.rec (motive := fun _ => Bool) (fun b y => Prod.rec (motive := fun _ => Bool) (fun o v => M.cellsK b fun n d t => bt (Nat.ble n o) false (bt (evEq (cellG t d o) v) (ih M K) false)) y) x) S M K
/-- An operation with a given number. -/
def withId (M : EM) (id : Nat) (f : EM → KM → Bool) (K : KM) : Bool := EM.rec (motive := fun _ => Bool) (fun t N => forceN id fun id => f ⟨t, id⟩ fun v M' => EM.rec (motive := fun _ => Bool) (fun t' _ => K v ⟨t', N⟩) M') M
def memN (j : Nat) (l : List Nat) : Bool := List.rec (motive := fun _ => Bool) false (fun x _ ih => bt (Nat.beq j x) true ih) l
def chkT (js : List Nat) (S : ST) (M : EM) (K : Bool) : Bool :=
  List.rec (motive := fun _ => Bool → Bool) (fun K => K) (fun x _ ih K => Prod.rec (motive := fun _ => Bool) (fun tag se => bt (memN tag js) (chkS se M (ih K)) (ih K)) x) S K
def evD (r : ED) : Nat → ST → HC → EN → List EV → EM → (List EV → EM → Bool) → Bool :=
  ED.rec (motive := fun _ => Nat → ST → HC → EN → List EV → EM → (List EV → EM → Bool) → Bool) (fun _ _ _ _ L M K => K L M)
    (fun g id chk e _ ih base S H env L M K =>
      Option.rec (motive := fun _ => Bool → Bool) (fun yes => yes) (fun g yes => Prod.rec (motive := fun _ => Bool) (fun x w => wantK (x.ev env L) w yes (chkT chk S M (ih base S H env (.tup [] :: L) M K))) g) g
        (Option.rec (motive := fun _ => KM → Bool) (fun K => eopF e H env L M K) (fun k K => withId M (Nat.add base k) (fun M K => eopF e H env L M K) K) id
          fun v M => chkT chk S M (ih base S H env (v :: L) M K))) r
def flS (b : Nat) (l : List EV) : Nat → SE := List.rec (motive := fun _ => Nat → SE) (fun _ => []) (fun v _ ih o => (b, o, v) :: ih (Nat.succ o)) l
def evD1 (r : ED1) : Nat → ST → HC → EN → List EV → EM → (List EV → EM → Bool) → Bool :=
  ED1.rec (motive := fun _ => Nat → ST → HC → EN → List EV → EM → (List EV → EM → Bool) → Bool) (fun r base S H env L M K => evD r base S H env L M K)
    (fun g e _ ih base S H env L M K =>
      Option.rec (motive := fun _ => Bool → Bool) (fun yes => yes) (fun g yes => Prod.rec (motive := fun _ => Bool) (fun x w => wantK (x.ev env L) w yes (ih base S H env (.tup [] :: L) M K)) g) g
        (eopF e H env L M fun v M => ih base S H env (v :: L) M K))
    (fun tag x _ ih base S H env L M K => (x.ev env L).ptrD (fun b o => M.cellsK b fun n d t => bt (Nat.ble n o) false ((cellG t d o).force fun v => ih base ((tag, [(b, o, v)]) :: S) H env (v :: L) M K)) false)
    (fun tag k x _ ih base S H env L M K => bt (Nat.beq k 0) false ((x.ev env L).ptrD (fun b o => M.cellsK b fun n d t => bt (Nat.ble (Nat.add o k) n) (rdL k o t d [] fun l => ih base ((tag, flS b l o) :: S) H env (.agg l :: L) M K) false) false)) r
end
def gOf (σ : Sig) (c : Nat) : Option (Option Nat × Bool) → Option (Option (EOpd × Bool))
  | none => some none
  | some (none, _) => none
  | some (some t, w) => match sget σ t with
    | some x => some (some (x.low c, w))
    | none => none
def isMv : LOp → Option Opd
  | .p (.mv x) => some x
  | _ => none
/-- The free loads whose cells an operation must leave alone. -/
def chkOf (tab fls : List Nat) (i : Nat) (o : LOper) : List Nat := if 2 ≤ o.cls then fls.filter fun j => j != i && !anc tab i j else []
def compD (tab fls : List Nat) : Sig → Nat → List Nat → List (Nat × LOper) → Option (ED × Sig × Nat)
  | σ, c, _, [] => some (.nil, σ, c)
  | σ, c, ids, (i, o) :: rest =>
    match o.guard.isNone, isMv o.op with
    | true, some x => match csig σ x with
      | some x => compD tab fls (sput σ o.dst x) c ids rest
      | none => none
    | _, _ => match gOf σ c o.guard, compO (sigOf σ c) o.op, compD tab fls (sput σ o.dst (.a c)) (c + 1) ids rest with
      | some g, some e, some (r, σ', c') => some (.op g (if o.noid then none else some (ids.idxOf i)) (chkOf tab fls i o) e r, σ', c')
      | _, _, _ => none
def compD1 (tab fls : List Nat) : Sig → Nat → List Nat → List (Nat × LOper) → Option (ED1 × Sig × Nat)
  | σ, c, ids, [] => match compD tab fls σ c ids [] with
    | some (r, σ', c') => some (.nil r, σ', c')
    | none => none
  | σ, c, ids, (i, o) :: rest =>
    if 2 ≤ o.cls then
      match compD tab fls σ c ids ((i, o) :: rest) with
      | some (r, σ', c') => some (.nil r, σ', c')
      | none => none
    else match o.guard, o.op with
    | none, .fl none x => match (sigOf σ c) x, compD1 tab fls (sput σ o.dst (.a c)) (c + 1) ids rest with
      | some x, some (r, σ', c') => some (.fl1 i x r, σ', c')
      | _, _ => none
    | none, .fl (some n) x => match (sigOf σ c) x, compD1 tab fls (sput σ o.dst (.a c)) (c + 1) ids rest with
      | some x, some (r, σ', c') => some (.fln i n x r, σ', c')
      | _, _ => none
    | gd, q => match gd.isNone, isMv q with
      | true, some x => match csig σ x with
        | some x => compD1 tab fls (sput σ o.dst x) c ids rest
        | none => none
      | _, _ => match gOf σ c gd, compO (sigOf σ c) q, compD1 tab fls (sput σ o.dst (.a c)) (c + 1) ids rest with
        | some g, some e, some (r, σ', c') => some (.op g e r, σ', c')
        | _, _, _ => none
section
variable {P : Program} {H : HC} {env : EN} {L : List EV} {M : EM}
theorem optEq_eq {a b : Option Nat} (h : optEq a b = true) : a = b := by
  cases a <;> cases b <;> first | rfl | cases h | skip
  rename_i x y
  have h' : Nat.beq x y = true := h
  rw [Nat.eq_of_beq_eq_true h']
theorem evEq0_spec {x y : EV} (h : evEq0 x y = true) : x = y := by
  unfold evEq0 at h
  replace h := natD_spec h; rcases h with ⟨a, rfl, h⟩ | h
  · replace h := natD_spec h; rcases h with ⟨b, rfl, h⟩ | h
    · rw [Nat.eq_of_beq_eq_true h]
    · cases h
  replace h := u64D_spec h; rcases h with ⟨a, rfl, h⟩ | h
  · replace h := u64D_spec h; rcases h with ⟨b, rfl, h⟩ | h
    · rw [Nat.eq_of_beq_eq_true h]
    · cases h
  replace h := bytD_spec h; rcases h with ⟨a, rfl, h⟩ | h
  · replace h := bytD_spec h; rcases h with ⟨b, rfl, h⟩ | h
    · rw [Nat.eq_of_beq_eq_true h]
    · cases h
  replace h := boolD_spec h; rcases h with ⟨a, rfl, h⟩ | h
  · replace h := boolD_spec h; rcases h with ⟨b, rfl, h⟩ | h
    · cases a <;> cases b <;> first | rfl | cases h
    · cases h
  replace h := ptrD_spec h; rcases h with ⟨a, o, rfl, h⟩ | h
  · replace h := ptrD_spec h; rcases h with ⟨b, p, rfl, h⟩ | h
    · replace h := bt_spec h; rcases h with ⟨e, h⟩ | ⟨_, h⟩
      · rw [Nat.eq_of_beq_eq_true h, Nat.eq_of_beq_eq_true e]
      · cases h
    · cases h
  replace h := slcD_spec h; rcases h with ⟨a, o, n, c, s, rfl, h⟩ | h
  · replace h := slcD_spec h; rcases h with ⟨a', o', n', c', s', rfl, h⟩ | h
    · replace h := bt_spec h; rcases h with ⟨e1, h⟩ | ⟨_, h⟩
      · replace h := bt_spec h; rcases h with ⟨e2, h⟩ | ⟨_, h⟩
        · replace h := bt_spec h; rcases h with ⟨e3, h⟩ | ⟨_, h⟩
          · replace h := bt_spec h; rcases h with ⟨e4, h⟩ | ⟨_, h⟩
            · rw [Nat.eq_of_beq_eq_true h, Nat.eq_of_beq_eq_true e1, Nat.eq_of_beq_eq_true e2, Nat.eq_of_beq_eq_true e3, optEq_eq e4]
            · cases h
          · cases h
        · cases h
      · cases h
    · cases h
  replace h := mapD_spec h; rcases h with ⟨a, rfl, h⟩ | h
  · replace h := mapD_spec h; rcases h with ⟨b, rfl, h⟩ | h
    · rw [Nat.eq_of_beq_eq_true h]
    · cases h
  replace h := strD_spec h; rcases h with ⟨l, p, rfl, h⟩ | h
  · replace h := strD_spec h; rcases h with ⟨l', p', rfl, h⟩ | h
    · replace h := bt_spec h; rcases h with ⟨e, h⟩ | ⟨_, h⟩
      · rw [Nat.eq_of_beq_eq_true h, Nat.eq_of_beq_eq_true e]
      · cases h
    · cases h
  replace h := nilsD_spec h; rcases h with ⟨rfl, h⟩ | h
  · replace h := nilsD_spec h; rcases h with ⟨rfl, h⟩ | h
    · rfl
    · cases h
  cases h
theorem evEqL_spec : ∀ {l l' : List EV}, evEqL l l' = true → l = l'
  | [], l', h => by cases l' <;> first | rfl | cases h
  | x :: l, l', h => by
    cases l' with
    | nil => cases h
    | cons y l' =>
      have h' : bt (evEq0 x y) (evEqL l l') false = true := h
      replace h' := bt_spec h'; rcases h' with ⟨e, h'⟩ | ⟨_, h'⟩
      · rw [evEq0_spec e, evEqL_spec h']
      · cases h'
theorem evEq_spec {x y : EV} (h : evEq x y = true) : x = y := by
  unfold evEq at h
  replace h := fnD_spec h; rcases h with ⟨f, l, c, rfl, h⟩ | h
  · replace h := fnD_spec h; rcases h with ⟨f', l', c', rfl, h⟩ | h
    · replace h := bt_spec h; rcases h with ⟨e1, h⟩ | ⟨_, h⟩
      · replace h := bt_spec h; rcases h with ⟨e2, h⟩ | ⟨_, h⟩
        · rw [Nat.eq_of_beq_eq_true e1, evEqL_spec e2, evEqL_spec h]
        · cases h
      · cases h
    · cases h
  exact evEq0_spec h
theorem chkS_spec : ∀ {S : SE} {K : Bool}, chkS S M K = true → Holds (toStab S) M.toMem ∧ K = true
  | [], K, h => ⟨(fun x hx => by cases hx), h⟩
  | (b, o, v) :: S, K, h => by
    have h' : (M.cellsK b fun n d t => bt (Nat.ble n o) false (bt (evEq (cellG t d o) v) (chkS S M K) false)) = true := h
    obtain ⟨n, d, t, wr, h1, hb⟩ := EM.cellsK_spec h'
    replace h1 := bt_spec h1; rcases h1 with ⟨_, h1⟩ | ⟨hn, h1⟩
    · cases h1
    · replace h1 := bt_spec h1; rcases h1 with ⟨he, h1⟩ | ⟨_, h1⟩
      · obtain ⟨g1, g2⟩ := chkS_spec h1
        refine ⟨?_, g2⟩
        intro x hx
        rcases List.mem_cons.1 hx with rfl | hx
        · show M.toMem.rd b o = some v.toAV
          rw [rd_of hb (ble_false hn), evEq_spec he]
        · exact g1 x hx
      · cases h1
theorem memN_eq (j : Nat) (l : List Nat) (h : j ∈ l) : memN j l = true := by
  induction l with
  | nil => cases h
  | cons x l ih =>
    show bt (Nat.beq j x) true (memN j l) = true
    rcases List.mem_cons.1 h with rfl | h
    · rw [Nat.beq_refl]; rfl
    · rw [ih h]; cases Nat.beq j x <;> rfl
theorem chkT_spec {js : List Nat} : ∀ {S : ST} {K : Bool}, chkT js S M K = true → (∀ x ∈ S, x.1 ∈ js → Holds (toStab x.2) M.toMem) ∧ K = true
  | [], K, h => ⟨(fun x hx => by cases hx), h⟩
  | (tag, se) :: S, K, h => by
    have h' : bt (memN tag js) (chkS se M (chkT js S M K)) (chkT js S M K) = true := h
    replace h' := bt_spec h'; rcases h' with ⟨_, h'⟩ | ⟨hn, h'⟩
    · obtain ⟨h1, h2⟩ := chkS_spec h'
      obtain ⟨h3, h4⟩ := chkT_spec h2
      refine ⟨?_, h4⟩
      intro x hx hj
      rcases List.mem_cons.1 hx with rfl | hx
      · exact h1
      · exact h3 x hx hj
    · obtain ⟨h3, h4⟩ := chkT_spec h'
      refine ⟨?_, h4⟩
      intro x hx hj
      rcases List.mem_cons.1 hx with rfl | hx
      · rw [memN_eq _ _ hj] at hn; cases hn
      · exact h3 x hx hj
theorem Rof_mem {S : ST} {j : Nat} {y : Nat × Nat × AV} : y ∈ Rof S j ↔ ∃ x ∈ S, x.1 = j ∧ y ∈ toStab x.2 := by
  unfold Rof
  simp only [List.mem_flatMap, List.mem_filter, beq_iff_eq]
  constructor
  · rintro ⟨x, ⟨a, b⟩, c⟩; exact ⟨x, a, b, c⟩
  · rintro ⟨x, a, b, c⟩; exact ⟨x, ⟨a, b⟩, c⟩
theorem Sof_mem {tab : List Nat} {S : ST} {i : Nat} {y : Nat × Nat × AV} : y ∈ Sof tab S i ↔ ∃ x ∈ S, (x.1 ≠ i ∧ anc tab i x.1 = false) ∧ y ∈ toStab x.2 := by
  unfold Sof
  simp only [List.mem_flatMap, List.mem_filter, Bool.and_eq_true, bne_iff_ne, ne_eq, Bool.not_eq_true']
  constructor
  · rintro ⟨x, ⟨a, b⟩, c⟩; exact ⟨x, a, b, c⟩
  · rintro ⟨x, a, b, c⟩; exact ⟨x, ⟨a, b⟩, c⟩
theorem RS_ok (tab : List Nat) (S : ST) : ∀ i j, j ≠ i → anc tab i j = false → ∀ x ∈ Rof S j, x ∈ Sof tab S i := by
  intro i j hne ha x hx
  obtain ⟨y, h1, rfl, h3⟩ := Rof_mem.1 hx
  exact Sof_mem.2 ⟨y, h1, ⟨hne, ha⟩, h3⟩
/-- An operation with a given number is that operation. -/
theorem withId_spec {id : Nat} {q : MOp} {ρ : Opd → AV} {f : EM → KM → Bool} {K : KM} (hn : q.noid = false) (hf : ∀ (M : EM) (K : KM), f M K = true → OpS (.m q) ρ M K) (h : withId M id f K = true) :
    ∃ (r : EV) (M' : EM), mop id ρ M.toMem q = some (r.toAV, M'.toMem) ∧ K r M' = true := by
  obtain ⟨t, N⟩ := M
  have h' : (forceN id fun id => f ⟨t, id⟩ fun v M' => EM.rec (motive := fun _ => Bool) (fun t' _ => K v ⟨t', N⟩) M') = true := h
  rw [forceN_eq] at h'
  obtain ⟨r, M', h1, h2⟩ := hf _ _ h'
  simp only [opA, hn, Bool.false_eq_true, if_false] at h1
  have e1 : ({ (⟨t, id⟩ : EM).toMem with next := (⟨t, id⟩ : EM).toMem.next + 1 } : Mem) = wn (⟨t, N⟩ : EM).toMem (id + 1) := rfl
  have h1' : mop id ρ (wn (⟨t, N⟩ : EM).toMem (id + 1)) q = some (r.toAV, M'.toMem) := by rw [← e1]; exact h1
  rw [mop_next] at h1'
  unfold wnr at h1'
  simp only [Option.map_eq_some_iff, Prod.exists, Prod.mk.injEq] at h1'
  obtain ⟨v, M₂, g1, rfl, g2⟩ := h1'
  obtain ⟨t', N'⟩ := M'
  refine ⟨r, ⟨t', N⟩, ?_, h2⟩
  rw [g1]
  congr 2
  have hnx : M₂.next = N := (mop_loc g1).next
  have hg : M₂.get = (⟨t', N'⟩ : EM).toMem.get := by rw [← g2]; rfl
  obtain ⟨g, n⟩ := M₂
  simp only at hnx hg
  subst hnx hg
  rfl
end
end Go.E
end
section
namespace Go.E
open Go.A
section
variable {P : Program} {H : HC} {env : EN} {L : List EV} {M : EM}
theorem nu_of {base i : Nat} {ids : List Nat} (h : i ∈ ids) : nuOf base ids i = base + ids.idxOf i := by
  unfold nuOf
  simp [h]
theorem isMv_spec {q : LOp} {x : Opd} (h : isMv q = some x) : q = .p (.mv x) := by
  unfold isMv at h
  split at h <;> cases h
  rfl
theorem gOf_spec {σ : Sig} {c : Nat} {s : St} (ha : Agr σ c env L s.regs) {gd : Option (Option Nat × Bool)} {g : Option (EOpd × Bool)} (h : gOf σ c gd = some g) {yes no : Bool}
    (hb : (Option.rec (motive := fun _ => Bool → Bool) (fun yes => yes) (fun g yes => Prod.rec (motive := fun _ => Bool) (fun x w => wantK (x.ev env L) w yes no) g) g yes : Bool) = true) :
    (wantedA s.regs gd = some true ∧ yes = true) ∨ (wantedA s.regs gd = some false ∧ no = true) := by
  unfold gOf at h
  split at h
  · cases h; exact .inl ⟨rfl, hb⟩
  · cases h
  · split at h <;> cases h
    rename_i x hx
    exact wantK_spec hb (ha _ x hx).2
/-- One wanted operation of such a region. -/
theorem yesD (hH : HSound P H) {σ : Sig} {c : Nat} {s : St} (ha : Agr σ c env L s.regs) (hm : s.mem = M.toMem) {R S : Nat → Stab} {ν : Nat → Nat} {i : Nat} {o : LOper} {e : EOp} (he : compO (sigOf σ c) o.op = some e)
    (hw : wantedA s.regs o.guard = some true) {K : KM} {Kp : St → Prop} {id : Option Nat} (hid : id = if o.noid then none else some (ν i))
    (h : (Option.rec (motive := fun _ => KM → Bool) (fun K => eopF e H env L M K) (fun k K => withId M k (fun M K => eopF e H env L M K) K) id K : Bool) = true)
    (hK : ∀ (v : EV) (M' : EM), K v M' = true → (2 ≤ o.cls → Holds (S i) M'.toMem) ∧ ((2 ≤ o.cls ∨ M'.toMem = M.toMem) → Kp (St.put { s with mem := M'.toMem } o.dst v.toAV))) :
    aopD1 P R S ν (fun _ _ => False) i o Kp s := by
  have hsig := ha.sig
  obtain ⟨dst, guard, op⟩ := o
  simp only at he hw
  cases op with
  | p q =>
    have hc : (⟨dst, guard, .p q⟩ : LOper).cls = 0 := rfl
    simp only [LOper.noid, if_true] at hid
    subst hid
    obtain ⟨r, M', h1, h2⟩ := compO_spec (P := P) hH hsig (fun v => rfl) he h
    simp only [opA, Option.map_eq_some_iff, Prod.mk.injEq] at h1
    obtain ⟨v, h1, rfl, h3⟩ := h1
    have hk := hK _ M' h2
    rw [aopD1_le (by rw [hc]; omega)]
    simp only [detv, hw, h1, Option.map_some]
    refine ⟨fun hh => by rw [hc] at hh; omega, ?_⟩
    have := hk.2 (.inr h3.symm)
    rw [← h3, ← hm] at this
    exact this
  | m q =>
    have hc : (⟨dst, guard, .m q⟩ : LOper).cls = q.cls := rfl
    have hle : q.cls ≤ 3 := by cases q <;> simp [MOp.cls]
    rw [aopD1_le (by rw [hc]; exact hle)]
    have fin : ∀ (r : EV) (M' : EM), mop (ν i) (fun x => x.ev s.regs) M.toMem q = some (r.toAV, M'.toMem) → K r M' = true →
        (match detv (R i) (ν i) ⟨dst, guard, .m q⟩ s.regs s.mem with
        | some (v, M') => ((⟨dst, guard, .m q⟩ : LOper).cls = 2 → Holds (S i) M') ∧ Kp (St.put { s with mem := M' } dst v)
        | none => False) := by
      intro r M' h1 h2
      have hk := hK r M' h2
      simp only [detv, hw, hm, h1]
      refine ⟨fun hh => hk.1 (by rw [hh]; omega), ?_⟩
      refine hk.2 ?_
      by_cases h2 : 2 ≤ q.cls
      · exact .inl h2
      · right
        have h01 : q.cls = 1 := by cases q <;> simp [MOp.cls] at h2 ⊢
        exact mop_reads h01 h1
    by_cases hn : q.noid = true
    · simp only [LOper.noid, hn, if_true] at hid
      subst hid
      obtain ⟨r, M', h1, h2⟩ := compO_spec (P := P) hH hsig (fun v => rfl) he h
      simp only [opA, hn, if_true] at h1
      exact fin r M' (by rw [mop_noid hn (ν i) 0]; exact h1) h2
    · have hn' : q.noid = false := by simpa using hn
      simp only [LOper.noid, hn', Bool.false_eq_true, if_false] at hid
      subst hid
      obtain ⟨r, M', h1, h2⟩ := withId_spec hn' (fun M K hev => compO_spec (P := P) hH hsig (fun v => rfl) he hev) h
      exact fin r M' h1 h2
  | call f args =>
    have hc : (⟨dst, guard, .call f args⟩ : LOper).cls = 4 := rfl
    simp only [LOper.noid, if_true] at hid
    subst hid
    have hg : CallV P (f.ev s.regs) (args.map fun x => x.ev s.regs) M.toMem (RetK K) := compO_spec (P := P) hH hsig (fun v => rfl) he h
    rw [aopD1_call hc]
    simp only [aop1, hw]
    rw [hm]
    refine hg.mono ?_
    rintro out M' ⟨v, M₁, rfl, rfl, hk⟩
    have hk' := hK v M₁ hk
    refine ⟨?_, hk'.2 (.inl (by rw [hc]; omega))⟩
    rw [put_mem]
    exact hk'.1 (by rw [hc]; omega)
  | panic x => cases he
  | defer f l => cases he
  | fl n x => cases he
theorem noD {R S : Nat → Stab} {ν : Nat → Nat} {i : Nat} {o : LOper} {s : St} (hS : 2 ≤ o.cls → Holds (S i) s.mem) (hw : wantedA s.regs o.guard = some false) (hc : o.cls ≤ 4) {Kp : St → Prop} (h : Kp (s.put o.dst (.tup []))) : aopD1 P R S ν (fun _ _ => False) i o Kp s := by
  by_cases hc3 : o.cls ≤ 3
  · rw [aopD1_le hc3]
    simp only [detv, hw]
    exact ⟨fun hh => hS (by omega), h⟩
  · rw [aopD1_call (by omega)]
    simp only [aop1, hw]
    exact ⟨by rw [put_mem]; exact hS (by omega), h⟩
theorem compO_cls {σ : Sg} {o : LOper} {e : EOp} (h : compO σ o.op = some e) : o.cls ≤ 4 := by
  unfold LOper.cls
  cases hop : o.op with
  | p q => simp
  | m q => simp only; cases q <;> simp [MOp.cls]
  | call f a => simp
  | _ => rw [hop] at h; cases h
theorem compD_sound (hH : HSound P H) (tab fls ids : List Nat) : ∀ (rem : List (Nat × LOper)) (σ : Sig) (c : Nat) (ed : ED) (σ' : Sig) (c' : Nat), compD tab fls σ c ids rem = some (ed, σ', c') → (∀ p ∈ rem, p.2.noid = true ∨ p.1 ∈ ids) →
    ∀ (base : Nat) (S : ST) (env : EN) (L : List EV) (M : EM) (s : St) (K : List EV → EM → Bool) (Kp : St → Prop), (∀ x ∈ S, x.1 ∈ fls) → Agr σ c env L s.regs → s.mem = M.toMem → evD ed base S H env L M K = true →
      (∀ L' M' s', Agr σ' c' env L' s'.regs → s'.mem = M'.toMem → s'.dfr = s.dfr → K L' M' = true → Kp s') → aopsD P (Rof S) (Sof tab S) (nuOf base ids) (fun _ _ => False) rem Kp s := by
  intro rem
  induction rem with
  | nil =>
    intro σ c ed σ' c' hc hids base S env L M s K Kp hfl ha hm h hK
    simp only [compD, Option.some.injEq, Prod.mk.injEq] at hc
    obtain ⟨rfl, rfl, rfl⟩ := hc
    exact hK L M s ha hm rfl h
  | cons p rest ih =>
    obtain ⟨i, o⟩ := p
    intro σ c ed σ' c' hc hids base S env L M s K Kp hfl ha hm h hK
    show aopD1 P (Rof S) (Sof tab S) (nuOf base ids) (fun _ _ => False) i o (aopsD P (Rof S) (Sof tab S) (nuOf base ids) (fun _ _ => False) rest Kp) s
    simp only [compD] at hc
    split at hc
    · rename_i x hg hx
      split at hc
      · rename_i y hy
        have hq := isMv_spec hx
        have hgn : o.guard = none := by simpa using hg
        rw [aopD1_le (by unfold LOper.cls; rw [hq]; simp)]
        simp only [detv, hgn, wantedA, hq, pop, Option.map_some]
        refine ⟨fun hh => absurd hh (by unfold LOper.cls; rw [hq]; simp), ?_⟩
        refine ih _ _ _ _ _ hc (fun p hp => hids p (by simp [hp])) base S env L M _ K Kp hfl (ha.alias o.dst hy) (by rw [put_mem]; exact hm) h ?_
        intro L' M' s' h1 h2 h3 h4
        exact hK L' M' s' h1 h2 (by rw [h3, put_dfr]) h4
      · cases hc
    · split at hc <;> cases hc
      rename_i g e r hgd he hr
      have next : ∀ (v : EV) (M' : EM) (s' : St), s' = St.put { s with mem := M'.toMem } o.dst v.toAV → evD r base S H env (v :: L) M' K = true → aopsD P (Rof S) (Sof tab S) (nuOf base ids) (fun _ _ => False) rest Kp s' := by
        intro v M' s' hs' hev
        subst hs'
        refine ih _ _ _ _ _ hr (fun p hp => hids p (by simp [hp])) base S env (v :: L) M' _ K Kp hfl (Agr.push (s := { s with mem := M'.toMem }) ha o.dst v) (by rw [put_mem]) hev ?_
        intro L' M'' s'' h1 h2 h3 h4
        exact hK L' M'' s'' h1 h2 (by rw [h3, put_dfr]) h4
      -- what the check gives
      have chk : ∀ (M' : EM) (b : Bool), chkT (chkOf tab fls i o) S M' b = true → (2 ≤ o.cls → Holds (Sof tab S i) M'.toMem) ∧ b = true := by
        intro M' b hb
        obtain ⟨k1, k2⟩ := chkT_spec hb
        refine ⟨fun h2 y hy => ?_, k2⟩
        obtain ⟨x, hx, ⟨g1, g2⟩, g3⟩ := Sof_mem.1 hy
        refine k1 x hx ?_ y g3
        unfold chkOf
        rw [if_pos h2]
        simp only [List.mem_filter, Bool.and_eq_true, bne_iff_ne, ne_eq, Bool.not_eq_true']
        exact ⟨hfl x hx, g1, g2⟩
      rcases gOf_spec ha hgd h with ⟨hw, hy⟩ | ⟨hw, hy⟩
      · have hid : (if o.noid then none else some (base + ids.idxOf i) : Option Nat) = if o.noid then none else some (nuOf base ids i) := by
          by_cases hn : o.noid = true
          · rw [if_pos hn, if_pos hn]
          · rw [if_neg hn, if_neg hn, nu_of ((hids (i, o) (by simp)).resolve_left hn)]
        have hy' : (Option.rec (motive := fun _ => KM → Bool) (fun K => eopF e H env L M K) (fun k K => withId M k (fun M K => eopF e H env L M K) K) (if o.noid then none else some (base + ids.idxOf i) : Option Nat)
            (fun v M => chkT (chkOf tab fls i o) S M (evD r base S H env (v :: L) M K)) : Bool) = true := by
          by_cases hn : o.noid = true
          · rw [if_pos hn] at hy ⊢; exact hy
          · rw [if_neg hn] at hy ⊢; exact hy
        refine yesD hH ha hm he hw hid hy' ?_
        intro v M' hk
        obtain ⟨k1, k2⟩ := chk M' _ hk
        exact ⟨k1, fun _ => next v M' _ rfl k2⟩
      · obtain ⟨k1, k2⟩ := chk M _ hy
        refine noD (by rw [hm]; exact k1) hw (compO_cls he) ?_
        refine ih _ _ _ _ _ hr (fun p hp => hids p (by simp [hp])) base S env (.tup [] :: L) M _ K Kp hfl (Agr.push ha o.dst (.tup [])) (by rw [put_mem]; exact hm) k2 ?_
        intro L' M' s' h1 h2 h3 h4
        exact hK L' M' s' h1 h2 (by rw [h3, put_dfr]) h4
end
end Go.E
end
section
namespace Go.E
open Go.A
section
variable {P : Program} {H : HC} {env : EN} {L : List EV} {M : EM}
theorem lookS_mem {S : Stab} {M : Mem} (hS : Holds S M) {b o : Nat} {v : AV} (hv : (b, o, v) ∈ S) : lookS S b o = some v := by
  have hr : M.rd b o = some v := hS _ hv
  have : ∃ u, lookS S b o = some u := by
    clear hr hS
    induction S with
    | nil => cases hv
    | cons x S ih =>
      obtain ⟨b', o', u⟩ := x
      simp only [lookS]
      split
      · exact ⟨_, rfl⟩
      · rename_i hne
        rcases List.mem_cons.1 hv with e | hm
        · cases e; exact absurd ⟨rfl, rfl⟩ hne
        · exact ih hm
  obtain ⟨u, hu⟩ := this
  have := hS.look hu
  rw [hr] at this
  cases this
  exact hu
theorem lookSn_mem {S : Stab} {M : Mem} (hS : Holds S M) {b : Nat} : ∀ {l : List AV} {o : Nat}, (∀ i v, l[i]? = some v → (b, o + i, v) ∈ S) → lookSn S b o l.length = some l
  | [], o, _ => rfl
  | v :: l, o, h => by
    have h0 := lookS_mem hS (h 0 v (by simp))
    have h1 := lookSn_mem hS (l := l) (o := o + 1) (fun i u hu => by rw [show o + 1 + i = o + (i + 1) from by omega]; exact h (i + 1) u (by simpa using hu))
    simp only [List.length_cons, lookSn]
    rw [Nat.add_zero] at h0
    rw [h0, h1]
theorem flS_mem {b : Nat} : ∀ {l : List EV} {o : Nat}, (∀ i v, l[i]? = some v → (b, o + i, v) ∈ flS b l o) ∧ (∀ x ∈ flS b l o, ∃ i v, l[i]? = some v ∧ x = (b, o + i, v))
  | [], o => ⟨fun i v h => by simp at h, fun x hx => by cases hx⟩
  | v :: l, o => by
    obtain ⟨h1, h3⟩ := flS_mem (b := b) (l := l) (o := o + 1)
    have e : flS b (v :: l) o = (b, o, v) :: flS b l (o + 1) := rfl
    rw [e]
    refine ⟨?_, ?_⟩
    · intro i u hu
      cases i with
      | zero => simp at hu; subst hu; simp
      | succ i =>
        have := h1 i u (by simpa using hu)
        rw [show o + (i + 1) = o + 1 + i from by omega]
        exact List.mem_cons_of_mem _ this
    · intro x hx
      rcases List.mem_cons.1 hx with rfl | hx
      · exact ⟨0, v, by simp, rfl⟩
      · obtain ⟨i, u, hu, rfl⟩ := h3 x hx
        exact ⟨i + 1, u, by simpa using hu, by rw [show o + (i + 1) = o + 1 + i from by omega]⟩
theorem cls1_noid {q : MOp} (h : q.cls ≤ 1) : q.noid = true ∧ q.cls = 1 := by cases q <;> simp [MOp.cls] at h ⊢ <;> rfl
/-- An operation that changes nothing. -/
theorem readD (hH : HSound P H) {σ : Sig} {c : Nat} {s : St} (ha : Agr σ c env L s.regs) (hm : s.mem = M.toMem) {o : LOper} {e : EOp} (he : compO (sigOf σ c) o.op = some e) (hc : o.cls ≤ 1)
    (hw : wantedA s.regs o.guard = some true) {K : KM} (h : eopF e H env L M K = true) : ∃ (v : EV) (M' : EM), (∀ S id, detv S id o s.regs s.mem = some (v.toAV, s.mem)) ∧ M'.toMem = M.toMem ∧ K v M' = true := by
  have hsig := ha.sig
  obtain ⟨dst, guard, op⟩ := o
  simp only at he hw
  cases op with
  | p q =>
    obtain ⟨r, M', h1, h2⟩ := compO_spec (P := P) hH hsig (fun v => rfl) he h
    simp only [opA, Option.map_eq_some_iff, Prod.mk.injEq] at h1
    obtain ⟨v, h1, rfl, h3⟩ := h1
    refine ⟨r, M', fun S id => ?_, h3.symm, h2⟩
    simp only [detv, hw, h1, Option.map_some]
  | m q =>
    obtain ⟨r, M', h1, h2⟩ := compO_spec (P := P) hH hsig (fun v => rfl) he h
    obtain ⟨hn, h1c⟩ := cls1_noid (q := q) hc
    simp only [opA, hn, if_true] at h1
    have hM := mop_reads h1c h1
    refine ⟨r, M', fun S id => ?_, hM, h2⟩
    simp only [detv, hw]
    rw [mop_noid hn id 0, hm, h1, hM]
  | call f args => simp [LOper.cls] at hc
  | panic x => cases he
  | defer f l => cases he
  | fl n x => cases he
/-- The free loads of a region. -/
def flsOf : List (Nat × LOper) → List Nat
  | [] => []
  | (i, o) :: r => match o.op with
    | .fl _ _ => i :: flsOf r
    | _ => flsOf r
theorem flsOf_cons {p : Nat × LOper} {r : List (Nat × LOper)} : ∀ x ∈ flsOf r, x ∈ flsOf (p :: r) := by
  intro x hx
  obtain ⟨i, o⟩ := p
  simp only [flsOf]
  split
  · exact List.mem_cons_of_mem _ hx
  · exact hx
theorem compD1_sound (hH : HSound P H) (tab fls ids : List Nat) : ∀ (rem : List (Nat × LOper)) (σ : Sig) (c : Nat) (ed : ED1) (σ' : Sig) (c' : Nat), compD1 tab fls σ c ids rem = some (ed, σ', c') → (∀ p ∈ rem, p.2.noid = true ∨ p.1 ∈ ids) → (∀ x ∈ flsOf rem, x ∈ fls) →
    ∀ (base : Nat) (S : ST) (env : EN) (L : List EV) (M : EM) (s : St) (K : List EV → EM → Bool) (Kp : St → Prop), (∀ x ∈ S, x.1 ∈ fls) → (∀ x ∈ S, Holds (toStab x.2) s.mem) → Agr σ c env L s.regs → s.mem = M.toMem → evD1 ed base S H env L M K = true →
      (∀ L' M' s', Agr σ' c' env L' s'.regs → s'.mem = M'.toMem → s'.dfr = s.dfr → K L' M' = true → Kp s') →
      ∃ S' : ST, (∀ x ∈ S, x ∈ S') ∧ (∀ x ∈ S', Holds (toStab x.2) s.mem) ∧ aopsD P (Rof S') (Sof tab S') (nuOf base ids) (fun _ _ => False) rem Kp s := by
  intro rem
  induction rem with
  | nil =>
    intro σ c ed σ' c' hc hids hfs base S env L M s K Kp hfl hS ha hm h hK
    simp only [compD1] at hc
    split at hc <;> cases hc
    rename_i r hr
    exact ⟨S, fun x hx => hx, hS, compD_sound hH tab fls ids [] σ c r σ' c' hr (fun p hp => by cases hp) base S env L M s K Kp hfl ha hm h hK⟩
  | cons p rest ih =>
    obtain ⟨i, o⟩ := p
    intro σ c ed σ' c' hc hids hfs base S env L M s K Kp hfl hS ha hm h hK
    simp only [compD1] at hc
    split at hc
    · split at hc <;> cases hc
      rename_i r hr
      exact ⟨S, fun x hx => hx, hS, compD_sound hH tab fls ids _ σ c r σ' c' hr hids base S env L M s K Kp hfl ha hm h hK⟩
    · rename_i hcls
      have hcls : o.cls ≤ 1 := by omega
      have hids' : ∀ p ∈ rest, p.2.noid = true ∨ p.1 ∈ ids := fun p hp => hids p (by simp [hp])
      have hfs' : ∀ x ∈ flsOf rest, x ∈ fls := fun x hx => hfs x (flsOf_cons x hx)
      -- one more value, the memory as it was
      have next : ∀ (v : EV) (M' : EM) (S1 : ST) (r : ED1), (∀ x ∈ S, x ∈ S1) → (∀ x ∈ S1, x.1 ∈ fls) → (∀ x ∈ S1, Holds (toStab x.2) s.mem) → M'.toMem = M.toMem → compD1 tab fls (sput σ o.dst (.a c)) (c + 1) ids rest = some (r, σ', c') → evD1 r base S1 H env (v :: L) M' K = true →
          (∀ S' : ST, (∀ x ∈ S1, x ∈ S') → (∀ x ∈ S', Holds (toStab x.2) s.mem) → ∃ id, detv (Rof S' i) id o s.regs s.mem = some (v.toAV, s.mem) ∧ id = nuOf base ids i) →
          ∃ S' : ST, (∀ x ∈ S, x ∈ S') ∧ (∀ x ∈ S', Holds (toStab x.2) s.mem) ∧ aopsD P (Rof S') (Sof tab S') (nuOf base ids) (fun _ _ => False) ((i, o) :: rest) Kp s := by
        intro v M' S1 r hsub hf1 hS1 hM hr hev hdet
        obtain ⟨S', g1, g2, g3⟩ := ih _ _ _ _ _ hr hids' hfs' base S1 env (v :: L) M' (s.put o.dst v.toAV) K Kp hf1 (by rw [put_mem]; exact hS1) (Agr.push ha o.dst v) (by rw [put_mem, hm, hM]) hev (by
          intro L' M'' s'' h1 h2 h3 h4
          exact hK L' M'' s'' h1 h2 (by rw [h3, put_dfr]) h4)
        rw [put_mem] at g2
        refine ⟨S', fun x hx => g1 x (hsub x hx), g2, ?_⟩
        show aopD1 P (Rof S') (Sof tab S') (nuOf base ids) (fun _ _ => False) i o (aopsD P (Rof S') (Sof tab S') (nuOf base ids) (fun _ _ => False) rest Kp) s
        obtain ⟨id, hd, rfl⟩ := hdet S' g1 g2
        rw [aopD1_le (by omega), hd]
        exact ⟨fun hh => by omega, g3⟩
      have holdsR : ∀ S' : ST, (∀ x ∈ S', Holds (toStab x.2) s.mem) → ∀ j, Holds (Rof S' j) s.mem := by
        intro S' hS' j y hy
        obtain ⟨x, hx, _, h3⟩ := Rof_mem.1 hy
        exact hS' x hx y h3
      obtain ⟨dst, guard, op⟩ := o
      simp only at hc hcls next
      have gen : (match guard.isNone, isMv op with
        | true, some x => match csig σ x with
          | some x => compD1 tab fls (sput σ dst x) c ids rest
          | none => none
        | _, _ => match gOf σ c guard, compO (sigOf σ c) op, compD1 tab fls (sput σ dst (.a c)) (c + 1) ids rest with
          | some g, some e, some (r, σ', c') => some (ED1.op g e r, σ', c')
          | _, _, _ => none) = some (ed, σ', c') → ∃ S' : ST, (∀ x ∈ S, x ∈ S') ∧ (∀ x ∈ S', Holds (toStab x.2) s.mem) ∧ aopsD P (Rof S') (Sof tab S') (nuOf base ids) (fun _ _ => False) ((i, ⟨dst, guard, op⟩) :: rest) Kp s := by
        intro hc2
        split at hc2
        · rename_i x hg hx
          split at hc2
          · rename_i y hy
            have hq := isMv_spec hx
            subst hq
            have hgn : guard = none := by simpa using hg
            subst hgn
            obtain ⟨S', g1, g2, g3⟩ := ih _ _ _ _ _ hc2 hids' hfs' base S env L M (s.put dst (x.ev s.regs)) K Kp hfl (by rw [put_mem]; exact hS) (ha.alias dst hy) (by rw [put_mem]; exact hm) h (by
              intro L' M'' s'' h1 h2 h3 h4
              exact hK L' M'' s'' h1 h2 (by rw [h3, put_dfr]) h4)
            rw [put_mem] at g2
            refine ⟨S', g1, g2, ?_⟩
            show aopD1 P (Rof S') (Sof tab S') (nuOf base ids) (fun _ _ => False) i ⟨dst, none, .p (.mv x)⟩ (aopsD P (Rof S') (Sof tab S') (nuOf base ids) (fun _ _ => False) rest Kp) s
            rw [aopD1_le (by simp [LOper.cls])]
            simp only [detv, wantedA, pop, Option.map_some]
            exact ⟨fun hh => by simp [LOper.cls] at hh, g3⟩
          · cases hc2
        · split at hc2 <;> cases hc2
          rename_i g e r hgd he hr
          rcases gOf_spec ha hgd h with ⟨hw, hy⟩ | ⟨hw, hy⟩
          · obtain ⟨v, M', h1, h2, h3⟩ := readD (P := P) hH ha hm (o := ⟨dst, guard, op⟩) he hcls hw hy
            exact next v M' S r (fun x hx => hx) hfl hS h2 hr h3 (fun S' _ _ => ⟨_, h1 _ _, rfl⟩)
          · refine next (.tup []) M S r (fun x hx => hx) hfl hS rfl hr hy (fun S' _ _ => ⟨_, ?_, rfl⟩)
            simp only [detv, hw]; rfl
      split at hc
      · -- a load of one cell that stays
        rename_i x _
        split at hc <;> cases hc
        rename_i y r hy hr
        have hxv := ha.sig _ _ hy
        have h' : (y.ev env L).ptrD (fun b o => M.cellsK b fun n d t => bt (Nat.ble n o) false ((cellG t d o).force fun v => evD1 r base ((i, [(b, o, v)]) :: S) H env (v :: L) M K)) false = true := h
        replace h' := ptrD_spec h'; rcases h' with ⟨b, of, e, h'⟩ | h'
        · obtain ⟨n, d, t, wr, h1, hb⟩ := EM.cellsK_spec h'
          replace h1 := bt_spec h1; rcases h1 with ⟨_, h1⟩ | ⟨hn, h1⟩
          · cases h1
          · rw [force_eq] at h1
            have hrd := rd_of hb (ble_false hn)
            refine next (cellG t d of) M ((i, [(b, of, cellG t d of)]) :: S) r (fun x hx => List.mem_cons_of_mem _ hx) ?_ ?_ rfl hr h1 ?_
            · intro x hx
              rcases List.mem_cons.1 hx with rfl | hx
              · exact hfs i (by simp [flsOf])
              · exact hfl x hx
            · intro x hx
              rcases List.mem_cons.1 hx with rfl | hx
              · intro z hz
                simp only [toStab, List.map_cons, List.map_nil, List.mem_singleton] at hz
                subst hz
                rw [hm]; exact hrd
              · exact hS x hx
            · intro S' hsub hS'
              refine ⟨_, ?_, rfl⟩
              have hx2 : x.ev s.regs = .ptr b of := by have := hxv; rw [e] at this; exact this
              simp only [detv, wantedA, flv, hx2]
              rw [lookS_mem (b := b) (o := of) (v := (cellG t d of).toAV) (holdsR S' hS' i) (Rof_mem.2 ⟨_, hsub _ (List.mem_cons_self ..), rfl, by simp [toStab]⟩)]; rfl
        · cases h'
      · -- a load of several
        rename_i k x _
        split at hc <;> cases hc
        rename_i y r hy hr
        have hxv := ha.sig _ _ hy
        have h' : bt (Nat.beq k 0) false ((y.ev env L).ptrD (fun b o => M.cellsK b fun n d t => bt (Nat.ble (Nat.add o k) n) (rdL k o t d [] fun l => evD1 r base ((i, flS b l o) :: S) H env (.agg l :: L) M K) false) false) = true := h
        replace h' := bt_spec h'; rcases h' with ⟨_, h'⟩ | ⟨hk0, h'⟩
        · cases h'
        · replace h' := ptrD_spec h'; rcases h' with ⟨b, of, e, h'⟩ | h'
          · obtain ⟨n, d, t, wr, h1, hb⟩ := EM.cellsK_spec h'
            replace h1 := bt_spec h1; rcases h1 with ⟨hn, h1⟩ | ⟨_, h1⟩
            · obtain ⟨l, h1, hl1, hl2⟩ := rdL_spec h1
              rw [List.append_nil] at h1
              have hn : of + k ≤ n := Nat.le_of_ble_eq_true hn
              have hk : k ≠ 0 := by intro e; subst e; cases hk0
              obtain ⟨f1, f3⟩ := flS_mem (b := b) (l := l) (o := of)
              have hcell : ∀ j v, l[j]? = some v → M.toMem.rd b (of + j) = some v.toAV := by
                intro j v hj
                have hjk : j < k := by
                  rcases Nat.lt_or_ge j k with g | g
                  · exact g
                  · rw [List.getElem?_eq_none (by omega)] at hj; cases hj
                rw [hl2 j hjk] at hj
                cases hj
                exact rd_of hb (by omega)
              refine next (.agg l) M ((i, flS b l of) :: S) r (fun x hx => List.mem_cons_of_mem _ hx) ?_ ?_ rfl hr h1 ?_
              · intro x hx
                rcases List.mem_cons.1 hx with rfl | hx
                · exact hfs i (by simp [flsOf])
                · exact hfl x hx
              · intro x hx
                rcases List.mem_cons.1 hx with rfl | hx
                · intro z hz
                  obtain ⟨y, hy, rfl⟩ := List.mem_map.1 hz
                  obtain ⟨j, v, hj, rfl⟩ := f3 y hy
                  rw [hm]; exact hcell j v hj
                · exact hS x hx
              · intro S' hsub hS'
                refine ⟨_, ?_, rfl⟩
                have hx2 : x.ev s.regs = .ptr b of := by have := hxv; rw [e] at this; exact this
                have hl : lookSn (Rof S' i) b of k = some (EV.toAVs l) := by
                  have := lookSn_mem (holdsR S' hS' i) (b := b) (l := EV.toAVs l) (o := of) (by
                    intro j v hj
                    rw [toAVs_map, List.getElem?_map] at hj
                    simp only [Option.map_eq_some_iff] at hj
                    obtain ⟨u, hu, rfl⟩ := hj
                    exact Rof_mem.2 ⟨_, hsub _ (List.mem_cons_self ..), rfl, List.mem_map.2 ⟨_, f1 j u hu, rfl⟩⟩)
                  rwa [toAVs_length, hl1] at this
                simp only [detv, wantedA, flv, hx2, if_neg hk, hl]; rfl
            · cases h1
          · cases h'
      · exact gen hc
end
/-- Such a region is compiled. -/
def compRegD (slots : List Nat) (rem : List (Nat × LOper)) (tab : List Nat) : Option (ED1 × Nat × List SI × List EOpd) :=
  match compD1 tab (flsOf rem) (sig0 0 slots) 0 (idsOf rem) rem with
  | some (r, σ, c) => match wbOf σ c 0 slots with
    | some (is, xs) => some (r, (idsOf rem).length, is, xs)
    | none => none
  | none => none
noncomputable section
/-- So many numbers are kept. -/
def EM.bumpK (M : EM) (k : Nat) (K : Nat → EM → Bool) : Bool := EM.rec (motive := fun _ => Bool) (fun t n => forceN (Nat.add n k) fun n' => K n ⟨t, n'⟩) M
def regDK (r : ED1) (k : Nat) (is : List SI) (xs : List EOpd) (H : HC) (env : EN) (M : EM) (K : EN → EM → Bool) : Bool :=
  M.bumpK k fun base M => evD1 r base [] H env [] M fun L M => wbK is xs env L fun env => K env M
end
theorem compRegD_sound {P : Program} {H : HC} (hH : HSound P H) {slots : List Nat} {rem : List (Nat × LOper)} {tab : List Nat} {r : ED1} {k : Nat} {is : List SI} {xs : List EOpd} (hc : compRegD slots rem tab = some (r, k, is, xs))
    {env : EN} {M : EM} {s : St} {K : EN → EM → Bool} {Kp : St → Prop} (ha : AgrS slots env s.regs) (hm : s.mem = M.toMem) (h : regDK r k is xs H env M K = true)
    (hK : ∀ env' M' s', AgrS slots env' s'.regs → s'.mem = M'.toMem → s'.dfr = s.dfr → K env' M' = true → Kp s') :
    ∃ R S : Nat → Stab, (∀ i j, j ≠ i → anc tab i j = false → ∀ x ∈ R j, x ∈ S i) ∧ (∀ q ∈ rem, Holds (R q.1) s.mem) ∧ aopsD P R S (nuOf s.mem.next (idsOf rem)) (fun _ _ => False) rem Kp (s.bump (idsOf rem).length) := by
  unfold compRegD at hc
  split at hc
  · rename_i r' σ c hr
    split at hc <;> cases hc
    rename_i hw
    obtain ⟨t, n⟩ := M
    have h' : (forceN (Nat.add n (idsOf rem).length) fun n' => evD1 r n [] H env [] ⟨t, n'⟩ fun L M => wbK is xs env L fun env => K env M) = true := h
    rw [forceN_eq] at h'
    have hmem : (s.bump (idsOf rem).length).mem = (⟨t, n + (idsOf rem).length⟩ : EM).toMem := by
      show ({ s.mem with next := s.mem.next + (idsOf rem).length } : Mem) = _
      rw [hm]; rfl
    obtain ⟨S, _, g2, g3⟩ := compD1_sound hH tab (flsOf rem) (idsOf rem) rem _ _ _ _ _ hr (fun p hp => idsOf_mem hp) (fun x hx => hx) n [] env [] ⟨t, n + (idsOf rem).length⟩ (s.bump (idsOf rem).length) _ Kp (fun x hx => by cases hx) (fun x hx => by cases hx) (AgrS.agr (L := []) ha) hmem h' (by
      intro L' M' s' h1 h2 h3 h4
      obtain ⟨env', g1, g2⟩ := wbK_sound h1 hw h4
      exact hK env' M' s' g2 h2 h3 g1)
    refine ⟨Rof S, Sof tab S, RS_ok tab S, ?_, ?_⟩
    · intro q _ y hy
      obtain ⟨x, hx, _, h3⟩ := Rof_mem.1 hy
      exact g2 x hx y h3
    · have hn : s.mem.next = n := by rw [hm]; rfl
      rw [hn]
      exact g3
  · cases hc
end Go.E
end
section
namespace Go.E
open Go.A
inductive EC where
  | skip
  | reg (r : ER) (is : List SI) (xs : List EOpd)
  | regD (r : ED1) (k : Nat) (is : List SI) (xs : List EOpd)
  | seq (a b : EC)
  | cond (x : EOpd) (t e : EC)
  | block (id : Nat) (b : EC)
  | loop (b : EC)
  | exit (id : Nat)
  | ret
  | bad
  deriving Inhabited
def compC (slots : List Nat) : XCode → EC
  | .skip => .skip
  | .reg l => match compReg slots l with
    | some (r, is, xs) => .reg r is xs
    | none => .bad
  | .regD rem tab => match compRegD slots rem tab with
    | some (r, k, is, xs) => .regD r k is xs
    | none => .bad
  | .seq a b => .seq (compC slots a) (compC slots b)
  | .cond c a b => match sigOf (sig0 0 slots) 0 c with
    | some x => .cond x (compC slots a) (compC slots b)
    | none => .bad
  | .block id b => .block id (compC slots b)
  | .loop b => .loop (compC slots b)
  | .exit id => .exit id
  | .ret => .ret
  | .scope b => compC slots b
  | .label => .skip
  | .bad => .bad
abbrev KN := EN → EM → Bool
abbrev KX := Nat → EN → EM → Bool
abbrev EF := HC → EN → EM → KN → KX → Bool
noncomputable section
def loopF (f : EF) (n : Nat) : HC → EN → EM → KX → Bool :=
  Nat.rec (motive := fun _ => HC → EN → EM → KX → Bool) (fun _ _ _ _ => false) (fun _ ih H env M Kx => f H env M (fun env M => ih H env M Kx) Kx) n
def regF (r : ER) (is : List SI) (xs : List EOpd) (H : HC) (env : EN) (M : EM) (Kn : KN) : Bool := evR r H env [] M fun L M => wbK is xs env L fun env => Kn env M
def condF (v : EV) (a b : Bool) : Bool := v.boolD (fun t => bt t a b) false
def blockF (id : Nat) (f : EF) : EF := fun H env M Kn Kx => f H env M Kn fun i env M => bt (Nat.beq i (Nat.succ id)) (Kn env M) (Kx i env M)
def evC (c : EC) : EF :=
  EC.rec (motive := fun _ => EF) (fun _ env M Kn _ => Kn env M)
    (fun r is xs H env M Kn _ => regF r is xs H env M Kn)
    (fun r k is xs H env M Kn _ => regDK r k is xs H env M Kn)
    (fun _ _ fa fb H env M Kn Kx => fa H env M (fun env M => fb H env M Kn Kx) Kx)
    (fun x _ _ fa fb H env M Kn Kx => condF (x.ev env []) (fa H env M Kn Kx) (fb H env M Kn Kx))
    (fun id _ fb => blockF id fb)
    (fun _ fb H env M _ Kx => loopF fb 10000000 H env M Kx)
    (fun id _ env M _ Kx => Kx (Nat.succ id) env M)
    (fun _ env M _ Kx => Kx 0 env M)
    (fun _ _ _ _ _ => false) c
end
/-- Between regions: the slots, the memory, nothing deferred. -/
structure At (DP : List ADef → Prop) (slots : List Nat) (env : EN) (M : EM) (s : St) : Prop where
  agr : AgrS slots env s.regs
  mem : s.mem = M.toMem
  dfr : DP s.dfr
section
variable {P : Program} {H : HC} {N : Nat} {hs : Hints} {slots : List Nat} {DP : List ADef → Prop}
theorem evC_sound (hm : P.follows .mixedOrders = true) (hH : HSound P H) : ∀ (x : XCode) (env : EN) (M : EM) (s : St) (Kn : KN) (Kx : KX) (Q : AExit → St → Prop), At DP slots env M s → evC (compC slots x) H env M Kn Kx = true →
    (∀ env' M' s', At DP slots env' M' s' → Kn env' M' = true → Q .normal s') → (∀ id env' M' s', At DP slots env' M' s' → Kx (id + 1) env' M' = true → Q (.exit id) s') → (∀ env' M' s', At DP slots env' M' s' → Kx 0 env' M' = true → Q .ret s') → XW P N hs none x Q s := by
  intro x
  induction x with
  | skip => intro env M s Kn Kx Q ha h hn hx hr; exact XW.skip (hn env M s ha h)
  | reg l =>
    intro env M s Kn Kx Q ha h hn hx hr
    simp only [compC] at h
    split at h
    · rename_i r is xs hc
      refine XW.reg (.inl rfl) ?_
      refine compReg_sound hH hc ha.agr ha.mem h ?_
      intro env' M' s' h1 h2 h3 h4
      exact hn env' M' s' ⟨h1, h2, by rw [h3]; exact ha.dfr⟩ h4
    · cases h
  | regD rem tab =>
    intro env M s Kn Kx Q ha h hn hx hr
    simp only [compC] at h
    split at h
    · rename_i r k is xs hc
      obtain ⟨R, S, h0, h1, h2⟩ := compRegD_sound hH hc ha.agr ha.mem h (Kp := fun s' => Q .normal s') (by
        intro env' M' s' h1 h2 h3 h4
        exact hn env' M' s' ⟨h1, h2, by rw [h3]; exact ha.dfr⟩ h4)
      exact XW.regD hm R S h0 h1 h2
    · cases h
  | seq a b iha ihb =>
    intro env M s Kn Kx Q ha h hn hx hr
    refine XW.seq ?_
    have h' : evC (compC slots a) H env M (fun env M => evC (compC slots b) H env M Kn Kx) Kx = true := h
    refine iha env M s _ Kx _ ha h' ?_ ?_ ?_
    · intro env' M' s' ha' h1
      exact ihb env' M' s' Kn Kx Q ha' h1 hn hx hr
    · intro id env' M' s' ha' h1
      exact hx id env' M' s' ha' h1
    · intro env' M' s' ha' h1
      exact hr env' M' s' ha' h1
  | cond c a b iha ihb =>
    intro env M s Kn Kx Q ha h hn hx hr
    simp only [compC] at h
    split at h
    · rename_i y hy
      have h' : condF (y.ev env []) (evC (compC slots a) H env M Kn Kx) (evC (compC slots b) H env M Kn Kx) = true := h
      unfold condF at h'
      replace h' := boolD_spec h'; rcases h' with ⟨t, e, h'⟩ | h'
      · have hv := (AgrS.agr (L := []) ha.agr).sig _ _ hy
        rw [e] at hv
        refine XW.cond (b := t) hv ?_ ?_
        · intro ht
          subst ht
          exact iha env M s Kn Kx Q ha h' hn hx hr
        · intro ht
          subst ht
          exact ihb env M s Kn Kx Q ha h' hn hx hr
      · cases h'
    · cases h
  | block id b ih =>
    intro env M s Kn Kx Q ha h hn hx hr
    refine XW.block ?_
    have h' : evC (compC slots b) H env M Kn (fun i env M => bt (Nat.beq i (Nat.succ id)) (Kn env M) (Kx i env M)) = true := h
    refine ih env M s Kn _ _ ha h' ?_ ?_ ?_
    · intro env' M' s' ha' h1
      exact hn env' M' s' ha' h1
    · intro i env' M' s' ha' h1
      show inBlockA id Q (.exit i) s'
      simp only [inBlockA]
      replace h1 := bt_spec h1; rcases h1 with ⟨e, h1⟩ | ⟨e, h1⟩
      · have e := Nat.eq_of_beq_eq_true e
        rw [if_pos (by omega)]
        exact hn env' M' s' ha' h1
      · have hne : i ≠ id := by
          rintro rfl
          rw [show i + 1 = Nat.succ i from rfl, Nat.beq_refl] at e
          cases e
        rw [if_neg hne]
        exact hx i env' M' s' ha' h1
    · intro env' M' s' ha' h1
      replace h1 := bt_spec h1; rcases h1 with ⟨e, h1⟩ | ⟨e, h1⟩
      · cases e
      · exact hr env' M' s' ha' h1
  | loop b ih =>
    intro env M s Kn Kx Q ha h hn hx hr
    have h' : loopF (evC (compC slots b)) 10000000 H env M Kx = true := h
    refine XW.loop 10000000 ?_
    generalize (10000000 : Nat) = n at h'
    clear h
    have key : ∀ (n : Nat) (env : EN) (M : EM) (s : St), At DP slots env M s → loopF (evC (compC slots b)) n H env M Kx = true → XRounds P N hs none b Q n s := by
      intro n
      induction n with
      | zero => intro env M s ha h; cases h
      | succ n ihn =>
        intro env M s ha h
        have h' : evC (compC slots b) H env M (fun env M => loopF (evC (compC slots b)) n H env M Kx) Kx = true := h
        refine ih env M s _ Kx _ ha h' ?_ ?_ ?_
        · intro env' M' s' ha' h1
          exact ihn env' M' s' ha' h1
        · intro id env' M' s' ha' h1
          exact hx id env' M' s' ha' h1
        · intro env' M' s' ha' h1
          exact hr env' M' s' ha' h1
    exact key n env M s ha h'
  | exit id => intro env M s Kn Kx Q ha h hn hx hr; exact XW.exit (hx id env M s ha h)
  | ret => intro env M s Kn Kx Q ha h hn hx hr; exact XW.ret (hr env M s ha h)
  | scope b ih =>
    intro env M s Kn Kx Q ha h hn hx hr
    exact XW.scope (ih env M s Kn Kx _ ha h hn hx hr)
  | label => intro env M s Kn Kx Q ha h hn hx hr; exact XW.label (hn env M s ha h)
  | bad => intro env M s Kn Kx Q ha h hn hx hr; cases h
end
end Go.E
end
section
namespace Go.E
open Go.A
inductive ERes where
  | s (i : SI)
  | cell (i : SI)
  | cells (i : SI) (n : Nat)
  deriving Inhabited
/-- The first environment: a slot is an argument, or there is nothing in it yet. -/
inductive IN where
  | nil
  | n (i0 i1 i2 i3 i4 i5 i6 i7 : Option Nat) (r : IN)
  deriving Inhabited
structure EFn where
  init : IN
  nargs : Nat
  res : List ERes
  body : EC
  deriving Inhabited
def slotOf (slots : List Nat) (t : Nat) : Option Nat :=
  match sget (sig0 0 slots) t with
  | some (.s i) => some i
  | _ => none
def compRes (slots : List Nat) : List LRes → Option (List ERes)
  | [] => some []
  | .tmp t :: r => match slotOf slots t, compRes slots r with
    | some i, some l => some (.s (siOf i) :: l)
    | _, _ => none
  | .cell t none :: r => match slotOf slots t, compRes slots r with
    | some i, some l => some (.cell (siOf i) :: l)
    | _, _ => none
  | .cell t (some n) :: r => match slotOf slots t, compRes slots r with
    | some i, some l => some (.cells (siOf i) n :: l)
    | _, _ => none
def inG (n : Nat) (slots : List Nat) (i : Nat) : Option Nat := match slots[i]? with | some t => if t < n then some t else none | none => none
def inOf (n : Nat) (slots : List Nat) : Nat → IN
  | 0 => .nil
  | k + 1 => .n (inG n slots 0) (inG n slots 1) (inG n slots 2) (inG n slots 3) (inG n slots 4) (inG n slots 5) (inG n slots 6) (inG n slots 7) (inOf n (slots.drop 8) k)
/-- A function of the program, compiled. -/
def mkF (P : Program) (f : FuncId) (nargs : Nat) (hs : Hints) (slots : List Nat) : Option EFn :=
  match P.funcs[f]? with
  | some fn => match fn.body with
    | some c => if fn.name == "runtime.NumGoroutine" || decide (fn.ntmps < nargs) then none else
      match lowRes P fn.results.toList with
      | some rs => match compRes slots rs with
        | some er => some { init := inOf nargs slots ((slots.length + 7) / 8), nargs := nargs, res := er, body := compC slots (lowX P fn.ntmps hs c) }
        | none => none
      | none => none
    | none => none
  | none => none
noncomputable section
/-- An argument; behind the last there is nothing. -/
def argG (l : List EV) : Nat → EV := List.rec (motive := fun _ => Nat → EV) (fun _ => .tup []) (fun a _ ih i => Nat.rec (motive := fun _ => EV) a (fun j _ => ih j) i) l
def init1 (i : Option Nat) (args : List EV) (K : EV → Bool) : Bool := Option.rec (motive := fun _ => List EV → (EV → Bool) → Bool) (fun _ K => K (.tup [])) (fun i args K => (argG args i).force K) i args K
def initK (t : IN) : List EV → (EN → Bool) → Bool :=
  IN.rec (motive := fun _ => List EV → (EN → Bool) → Bool) (fun _ K => K .nil)
    (fun i0 i1 i2 i3 i4 i5 i6 i7 _ ih args K => init1 i0 args fun a0 => init1 i1 args fun a1 => init1 i2 args fun a2 => init1 i3 args fun a3 => init1 i4 args fun a4 => init1 i5 args fun a5 => init1 i6 args fun a6 => init1 i7 args fun a7 => ih args fun r => K (.n a0 a1 a2 a3 a4 a5 a6 a7 r)) t
def res1K (r : ERes) : EN → EM → (EV → Bool) → Bool :=
  ERes.rec (motive := fun _ => EN → EM → (EV → Bool) → Bool) (fun i env _ K => (getI env i).force K) (fun i env M K => opLoad (getI env i) M fun v _ => K v) (fun i n env M K => opLoadn n (getI env i) M fun v _ => K v) r
def ressK (rs : List ERes) : EN → EM → (List EV → Bool) → Bool :=
  List.rec (motive := fun _ => EN → EM → (List EV → Bool) → Bool) (fun _ _ K => K []) (fun r _ ih env M K => res1K r env M fun v => ih env M fun l => K (v :: l)) rs
def outE (l : List EV) : EV := List.rec (motive := fun _ => EV) (.tup []) (fun v r _ => List.rec (motive := fun _ => EV) v (fun _ _ _ => .tup (v :: r)) r) l
def retK (rs : List ERes) (env : EN) (M : EM) (K : KM) : Bool := ressK rs env M fun l => (outE l).force fun v => K v M
def lenL (l : List EV) : Nat := List.rec (motive := fun _ => Nat) 0 (fun _ _ ih => Nat.succ ih) l
def runF (F : EFn) : HC → List EV → EM → KM → Bool :=
  EFn.rec (motive := fun _ => HC → List EV → EM → KM → Bool) (fun init nargs res body H args M K =>
    bt (Nat.beq (lenL args) nargs) (initK init args fun env => evC body H env M (fun env M => retK res env M K) (fun i env M => Nat.rec (motive := fun _ => Bool) (retK res env M K) (fun _ _ => false) i)) false) F
/-- Calls: by the table, or else from outside it; of depth n at most. -/
def evF (tab : Tr EFn) (ext : HC) (n : Nat) : HC :=
  Nat.rec (motive := fun _ => HC) (fun _ _ _ _ => false) (fun _ ih f args M K => Option.rec (motive := fun _ => HC → List EV → EM → KM → Bool) (fun _ args M K => ext f args M K) (fun F ih args M K => runF F ih args M K) (tab.get f) ih args M K) n
end
section
variable {P : Program}
theorem of_bodyX {f : FuncId} {N : Nat} {hs : Hints} {fn : Func} {c : Code} {rs : List LRes} {args : List AV} {M : Mem} {Q : AOut → Mem → Prop} (hf : P.funcs[f]? = some fn) (hb : fn.body = some c) (hn : fn.ntmps = N)
    (hname : (fn.name == "runtime.NumGoroutine") = false) (hres : lowRes P fn.results.toList = some rs) (hargs : args.length ≤ N)
    (h : XW P N hs none (lowX P N hs c) (bodyQ rs Q) ⟨args0 args, M, []⟩) : CallF P f args M Q := by
  refine ⟨by unfold enters; rw [hf]; simp [hb, hname], ?_⟩
  intro κ w V hr hv
  have hl : args.length = V.size := by simpa using hv.length
  refine callsIn_wide (n := 0).1 (callsIn_of_wp_defers hf hb trivial ?_)
  have hs : StR κ N ⟨args0 args, M, []⟩ { tmps := V ++ Array.replicate (fn.ntmps - V.size) undef, defers := [] } w :=
    ⟨hr, by simp; omega, args_RR hv _, .nil⟩
  refine wpIn_mono (h c rfl κ w _ none hs trivial) ?_
  rintro e a' w' ⟨κ', ae, s', h1, h2, h3, h4⟩
  have fin : s'.dfr = [] → (match resvs s' rs with | some l => Q (.ret (outv l)) s'.mem | none => False) → LeavesIn (FW none) 0 P fn a'.tmps (Post κ M w Q) a'.defers .returning w' := by
    intro hd hm
    have hdd : a'.defers = [] := by
      have := h3.dfr; rw [hd] at this; exact this.nil_left
    rw [hdd]
    split at hm
    · rename_i l hl
      obtain ⟨V, hV, hVr⟩ := results_run (P := P) h3 hres hl
      exact ⟨V, hV, κ', .ret (outv l), s'.mem, hm, hVr, h4⟩
    · exact hm.elim
  cases ae <;> cases e <;> simp only [ExR] at h2
  · exact fin h1.1 h1.2
  · exact h1.elim
  · exact h1.elim
  · exact fin h1.1 h1.2
  · rename_i v chain
    obtain ⟨V, hc, hV⟩ := h2
    have hdd : a'.defers = [] := by
      have := h3.dfr; rw [h1.1] at this; exact this.nil_left
    show LeavesIn (FW none) 0 P fn a'.tmps (Post κ M w Q) a'.defers (.panicking chain) w'
    rw [hdd]
    exact ⟨κ', .panic v, s'.mem, h1.2, ⟨V, hc, hV⟩, h4⟩
theorem lenL_eq (l : List EV) : lenL l = l.length := by
  induction l with
  | nil => rfl
  | cons v l ih => show Nat.succ (lenL l) = _; rw [ih]; rfl
theorem argG_spec : ∀ (l : List EV) (t : Nat), (argG l t).toAV = args0 (EV.toAVs l) t
  | [], t => by simp [args0, EV.toAVs]; rfl
  | a :: l, 0 => by simp [args0, EV.toAVs]; rfl
  | a :: l, t + 1 => by
    have := argG_spec l t
    simp only [args0, EV.toAVs, List.getElem?_cons_succ] at this ⊢
    exact this
noncomputable def inV (args : List EV) : Option Nat → EV
  | some t => argG args t
  | none => .tup []
theorem init1_spec {i : Option Nat} {args : List EV} {K : EV → Bool} (h : init1 i args K = true) : ∃ v, K v = true ∧ v = inV args i := by
  cases i with
  | none => exact ⟨_, h, rfl⟩
  | some t =>
    have h' : (argG args t).force K = true := h
    rw [force_eq] at h'
    exact ⟨_, h', rfl⟩
theorem getS_n (a0 a1 a2 a3 a4 a5 a6 a7 : EV) (r : EN) (i : Nat) : getS (.n a0 a1 a2 a3 a4 a5 a6 a7 r) (i + 8) = getS r i := by
  unfold getS
  rw [show (i + 8) / 8 = i / 8 + 1 from by omega, show (i + 8) % 8 = i % 8 from by omega]; rfl
theorem inG_spec {n : Nat} {slots : List Nat} {i t : Nat} {args : List EV} (hn : args.length = n) (h : slots[i]? = some t) {v : EV} (hv : v = inV args (inG n slots i)) : v.toAV = args0 (EV.toAVs args) t := by
  subst hv
  unfold inG
  rw [h]
  simp only
  by_cases hlt : t < n
  · rw [if_pos hlt]; exact argG_spec args t
  · rw [if_neg hlt]
    unfold args0
    rw [List.getElem?_eq_none (by rw [toAVs_length]; omega)]
    rfl
theorem initK_spec {args : List EV} {n : Nat} (hn : args.length = n) : ∀ {k : Nat} {slots : List Nat} {K : EN → Bool}, initK (inOf n slots k) args K = true → ∃ env, K env = true ∧ ∀ i t, i < 8 * k → slots[i]? = some t → (getS env i).toAV = args0 (EV.toAVs args) t
  | 0, slots, K, h => ⟨.nil, h, fun i t hi => by omega⟩
  | k + 1, slots, K, h => by
    have h' : (init1 (inG n slots 0) args fun a0 => init1 (inG n slots 1) args fun a1 => init1 (inG n slots 2) args fun a2 => init1 (inG n slots 3) args fun a3 => init1 (inG n slots 4) args fun a4 => init1 (inG n slots 5) args fun a5 => init1 (inG n slots 6) args fun a6 => init1 (inG n slots 7) args fun a7 => initK (inOf n (slots.drop 8) k) args fun r => K (.n a0 a1 a2 a3 a4 a5 a6 a7 r)) = true := h
    obtain ⟨v0, h', e0⟩ := init1_spec h'
    obtain ⟨v1, h', e1⟩ := init1_spec h'
    obtain ⟨v2, h', e2⟩ := init1_spec h'
    obtain ⟨v3, h', e3⟩ := init1_spec h'
    obtain ⟨v4, h', e4⟩ := init1_spec h'
    obtain ⟨v5, h', e5⟩ := init1_spec h'
    obtain ⟨v6, h', e6⟩ := init1_spec h'
    obtain ⟨v7, h', e7⟩ := init1_spec h'
    obtain ⟨r, h1, h2⟩ := initK_spec hn h'
    refine ⟨_, h1, ?_⟩
    intro i t hi ht
    match i, hi, ht with
    | 0, _, ht => exact inG_spec hn ht e0
    | 1, _, ht => exact inG_spec hn ht e1
    | 2, _, ht => exact inG_spec hn ht e2
    | 3, _, ht => exact inG_spec hn ht e3
    | 4, _, ht => exact inG_spec hn ht e4
    | 5, _, ht => exact inG_spec hn ht e5
    | 6, _, ht => exact inG_spec hn ht e6
    | 7, _, ht => exact inG_spec hn ht e7
    | i + 8, hi, ht =>
      rw [getS_n]
      refine h2 i t (by omega) ?_
      rw [List.getElem?_drop, show 8 + i = i + 8 from by omega]; exact ht
theorem slotOf_spec {slots : List Nat} {t i : Nat} {env : EN} {r : Nat → AV} (h : slotOf slots t = some i) (ha : AgrS slots env r) : (getS env i).toAV = r t := by
  unfold slotOf at h
  split at h <;> cases h
  rename_i hx
  obtain ⟨j, h1, h2⟩ := sig0_get hx
  cases h2
  rw [Nat.zero_add]
  exact ha j t h1
theorem ressK_spec {slots : List Nat} {env : EN} {M : EM} {s : St} (ha : AgrS slots env s.regs) (hm : s.mem = M.toMem) : ∀ {rs : List LRes} {er : List ERes} {K : List EV → Bool}, compRes slots rs = some er → ressK er env M K = true → ∃ l, resvs s rs = some (EV.toAVs l) ∧ K l = true
  | [], er, K, hc, h => by
    simp [compRes] at hc
    subst hc
    exact ⟨[], rfl, h⟩
  | r :: rs, er, K, hc, h => by
    have fin : ∀ (x : ERes) (l : List ERes) (K : List EV → Bool), compRes slots rs = some l → (∀ (k : EV → Bool), res1K x env M k = true → ∃ v : EV, resv s r = some v.toAV ∧ k v = true) → ressK (x :: l) env M K = true → ∃ l, resvs s (r :: rs) = some (EV.toAVs l) ∧ K l = true := by
      intro x l K hl h1 h
      have h' : (res1K x env M fun v => ressK l env M fun m => K (v :: m)) = true := h
      obtain ⟨v, g1, g2⟩ := h1 _ h'
      obtain ⟨m, g3, g4⟩ := ressK_spec ha hm hl g2
      exact ⟨v :: m, by simp only [resvs, g1, g3]; rfl, g4⟩
    have ρspec : ∀ i t, slotOf slots t = some i → s.regs t = (getS env i).toAV := fun i t hi => (slotOf_spec hi ha).symm
    cases r with
    | tmp t =>
      simp only [compRes] at hc
      split at hc <;> cases hc
      rename_i i l hi hl
      refine fin _ _ K hl ?_ h
      intro k hk
      have hk' : (getS env i).force k = true := hk
      rw [force_eq] at hk'
      exact ⟨_, by simp only [resv]; rw [ρspec i t hi], hk'⟩
    | cell t n =>
      cases n with
      | none =>
        simp only [compRes] at hc
        split at hc <;> cases hc
        rename_i i l hi hl
        refine fin _ _ K hl ?_ h
        intro k hk
        obtain ⟨v, M', h1, h2⟩ := opLoad_spec (ρ := fun x => x.ev s.regs) (x := .t t) (M := M) (K := fun v _ => k v) (ρspec i t hi) hk
        refine ⟨v, ?_, h2⟩
        simp only [opA, MOp.noid, if_true, mop, Opd.ev] at h1
        simp only [resv]
        cases hr : s.regs t with
        | ptr b o =>
          rw [hr] at h1
          simp only [Option.map_eq_some_iff, Prod.mk.injEq] at h1
          obtain ⟨u, hu, rfl, _⟩ := h1
          simp only [hm, hu]
        | _ => rw [hr] at h1; cases h1
      | some n =>
        simp only [compRes] at hc
        split at hc <;> cases hc
        rename_i i l hi hl
        refine fin _ _ K hl ?_ h
        intro k hk
        obtain ⟨v, M', h1, h2⟩ := opLoadn_spec (ρ := fun x => x.ev s.regs) (x := .t t) (k := n) (M := M) (K := fun v _ => k v) (ρspec i t hi) hk
        refine ⟨v, ?_, h2⟩
        simp only [opA, MOp.noid, if_true, mop, Opd.ev] at h1
        simp only [resv]
        cases hr : s.regs t with
        | ptr b o =>
          rw [hr] at h1
          simp only [Option.map_eq_some_iff, Prod.mk.injEq] at h1
          obtain ⟨u, hu, h3, _⟩ := h1
          simp only [hm, hu, Option.map_some, h3]
        | _ => rw [hr] at h1; cases h1
theorem outE_eq (l : List EV) : (outE l).toAV = outv (EV.toAVs l) := by
  match l with
  | [] => rfl
  | [v] => rfl
  | v :: w :: l => rfl
theorem retK_spec {slots : List Nat} {env : EN} {M : EM} {s : St} (ha : AgrS slots env s.regs) (hm : s.mem = M.toMem) {rs : List LRes} {er : List ERes} {K : KM} (hc : compRes slots rs = some er) (h : retK er env M K = true) :
    (match resvs s rs with | some l => RetK K (.ret (outv l)) s.mem | none => False) := by
  obtain ⟨l, h1, h2⟩ := ressK_spec ha hm hc h
  rw [force_eq] at h2
  rw [h1]
  exact ⟨_, M, by rw [outE_eq], hm, h2⟩
theorem lt_of_get {α : Type} {l : List α} {i : Nat} {a : α} (h : l[i]? = some a) : i < l.length := by
  rcases Nat.lt_or_ge i l.length with g | g
  · exact g
  · rw [List.getElem?_eq_none g] at h; cases h
/-- A function of the table is one of the program. -/
def Good (P : Program) (f : Nat) (F : EFn) : Prop := ∃ n hs slots, mkF P f n hs slots = some F
theorem runF_sound (hmo : P.follows .mixedOrders = true) {f : FuncId} {F : EFn} (hF : Good P f F) {H : HC} (hH : HSound P H) {args : List EV} {M : EM} {K : KM} (h : runF F H args M K = true) : CallF P f (EV.toAVs args) M.toMem (RetK K) := by
  obtain ⟨n, hs, slots, hmk⟩ := hF
  unfold mkF at hmk
  split at hmk
  · rename_i fn hf
    split at hmk
    · rename_i c hb
      split at hmk
      · cases hmk
      · rename_i hname
        split at hmk
        · rename_i rs hres
          split at hmk <;> cases hmk
          rename_i er her
          have h' : bt (Nat.beq (lenL args) n) (initK (inOf n slots ((slots.length + 7) / 8)) args fun env => evC (compC slots (lowX P fn.ntmps hs c)) H env M (fun env M => retK er env M K) (fun i env M => Nat.rec (motive := fun _ => Bool) (retK er env M K) (fun _ _ => false) i)) false = true := h
          replace h' := bt_spec h'; rcases h' with ⟨hle, h'⟩ | ⟨_, h'⟩
          · have hle := Nat.eq_of_beq_eq_true hle
            rw [lenL_eq] at hle
            simp only [Bool.or_eq_true, decide_eq_true_eq, not_or, Nat.not_lt] at hname
            obtain ⟨env, h1, h2⟩ := initK_spec hle h'
            refine of_bodyX (hs := hs) hf hb rfl (by simpa using hname.1) hres (by rw [toAVs_length]; omega) ?_
            refine evC_sound (DP := fun l => l = []) hmo hH _ env M _ _ _ _ ⟨fun i t hi => h2 i t (by have := lt_of_get hi; omega) hi, rfl, rfl⟩ h1 ?_ ?_ ?_
            · intro env' M' s' ha hk
              exact ⟨ha.dfr, retK_spec ha.agr ha.mem her hk⟩
            · intro id env' M' s' ha hk
              cases hk
            · intro env' M' s' ha hk
              exact ⟨ha.dfr, retK_spec ha.agr ha.mem her hk⟩
          · cases h'
        · cases hmk
    · cases hmk
  · cases hmk
/-- What holds at every key of a trie. -/
def AllT {α : Type} (p : Nat → α → Prop) : Tr α → (Nat → Nat) → Prop
  | .nil, _ => True
  | .br a b c d, key => AllT p a (fun k => key (4 * k + 1)) ∧ AllT p b (fun k => key (4 * k + 2)) ∧ AllT p c (fun k => key (4 * k + 3)) ∧ AllT p d (fun k => key (4 * k + 4))
  | .nd v a b c d, key => p (key 0) v ∧ AllT p a (fun k => key (4 * k + 1)) ∧ AllT p b (fun k => key (4 * k + 2)) ∧ AllT p c (fun k => key (4 * k + 3)) ∧ AllT p d (fun k => key (4 * k + 4))
theorem allT_get {α : Type} {p : Nat → α → Prop} : ∀ {t : Tr α} {key : Nat → Nat}, AllT p t key → ∀ k v, t.get k = some v → p (key k) v := by
  intro t
  induction t with
  | nil => intro key _ k v hk; cases hk
  | br a b c d iha ihb ihc ihd =>
    intro key h k v hk
    obtain ⟨ha, hb, hc, hd⟩ := h
    cases k with
    | zero => cases hk
    | succ m =>
      rw [get_xs, land3, shr2] at hk
      rcases split4 m with e | e | e | e <;> rw [e] at hk <;> simp only [sel0, sel1, sel2, sel3] at hk
      · have := iha ha _ _ hk; rwa [show 4 * (m / 4) + 1 = m + 1 from by omega] at this
      · have := ihb hb _ _ hk; rwa [show 4 * (m / 4) + 2 = m + 1 from by omega] at this
      · have := ihc hc _ _ hk; rwa [show 4 * (m / 4) + 3 = m + 1 from by omega] at this
      · have := ihd hd _ _ hk; rwa [show 4 * (m / 4) + 4 = m + 1 from by omega] at this
  | nd u a b c d iha ihb ihc ihd =>
    intro key h k v hk
    obtain ⟨h0, ha, hb, hc, hd⟩ := h
    cases k with
    | zero => cases hk; exact h0
    | succ m =>
      rw [get_ns, land3, shr2] at hk
      rcases split4 m with e | e | e | e <;> rw [e] at hk <;> simp only [sel0, sel1, sel2, sel3] at hk
      · have := iha ha _ _ hk; rwa [show 4 * (m / 4) + 1 = m + 1 from by omega] at this
      · have := ihb hb _ _ hk; rwa [show 4 * (m / 4) + 2 = m + 1 from by omega] at this
      · have := ihc hc _ _ hk; rwa [show 4 * (m / 4) + 3 = m + 1 from by omega] at this
      · have := ihd hd _ _ hk; rwa [show 4 * (m / 4) + 4 = m + 1 from by omega] at this
def TabOK (P : Program) (tab : Tr EFn) : Prop := AllT (Good P) tab (fun k => k)
theorem evF_sound (hmo : P.follows .mixedOrders = true) {tab : Tr EFn} (ht : TabOK P tab) {ext : HC} (he : HSound P ext) : ∀ n, HSound P (evF tab ext n)
  | 0, f, args, M, K, h => by cases h
  | n + 1, f, args, M, K, h => by
    have h' : (Option.rec (motive := fun _ => HC → List EV → EM → KM → Bool) (fun _ args M K => ext f args M K) (fun F ih args M K => runF F ih args M K) (tab.get f) (evF tab ext n) args M K : Bool) = true := h
    cases hg : tab.get f with
    | none => rw [hg] at h'; exact he f args M K h'
    | some F => rw [hg] at h'; exact (runF_sound hmo (allT_get ht f F hg) (evF_sound hmo ht he n) h').g
end
end Go.E
end
section
namespace Go.E
open Go.A
/-- Plain data: what a value reads as. -/
inductive Dat where
  | v (x : EV)
  | agg (l : List Dat)
  | sl (c : Option Nat) (es n : Nat) (l : List Dat)
  deriving Inhabited
mutual
def ren (ρ : Nat → Nat) : AV → AV
  | .ptr b o => .ptr (ρ b) o
  | .slc b o n c es => .slc (ρ b) o n c es
  | .map r => .map (ρ r)
  | .fn f l c => .fn f (rens ρ l) (rens ρ c)
  | .yld r => .yld (ρ r)
  | .ifc t v => .ifc t (ren ρ v)
  | .agg l => .agg (rens ρ l)
  | .tup l => .tup (rens ρ l)
  | .junk => .junk
  | .bool b => .bool b
  | .int k n => .int k n
  | .str s => .str s
  | .nilPtr => .nilPtr
  | .nilSlc => .nilSlc
  | .nilMap => .nilMap
  | .nilFn => .nilFn
  | .nilIfc => .nilIfc
def rens (ρ : Nat → Nat) : List AV → List AV
  | [] => []
  | v :: l => ren ρ v :: rens ρ l
end
theorem rens_map (ρ : Nat → Nat) (l : List AV) : rens ρ l = l.map (ren ρ) := by
  induction l with
  | nil => rfl
  | cons v l ih => simp [rens, ih]
section
variable {κ : Kap} {ρ : Nat → Nat}
mutual
theorem ren_VR : ∀ (v : AV) {V : Value}, VR κ (ren ρ v) V → VR (fun b => κ (ρ b)) v V
  | .junk, V, _ => .junk V
  | .bool b, _, h => by simp only [ren] at h; cases h; exact .bool b
  | .int k n, _, h => by simp only [ren] at h; cases h; exact .int k n
  | .str s, _, h => by simp only [ren] at h; cases h; exact .str _ _ (by assumption)
  | .nilPtr, _, h => by simp only [ren] at h; cases h; exact .nilPtr
  | .ptr b o, _, h => by simp only [ren] at h; cases h; rename_i k hk; exact .ptr b o k hk
  | .nilSlc, _, h => by simp only [ren] at h; cases h; exact .nilSlc
  | .slc b o n c es, _, h => by
    simp only [ren] at h
    cases h with
    | slc _ _ _ _ _ k cap h1 h2 h3 h4 h5 => exact .slc b o n c es k cap h1 h2 h3 h4 h5
    | slcE _ _ _ _ a h1 h2 => exact .slcE b o c es a h1 h2
  | .nilMap, _, h => by simp only [ren] at h; cases h; exact .nilMap
  | .map r, _, h => by simp only [ren] at h; cases h; rename_i k hk; exact .map r k hk
  | .fn f l c, _, h => by
    simp only [ren] at h
    cases h with
    | fn _ _ _ L C h1 h2 => exact .fn f l c L C (rens_VRs l h1) (rens_VRs c h2)
  | .yld r, _, h => by simp only [ren] at h; cases h; rename_i k hk; exact .yld r k hk
  | .nilFn, _, h => by simp only [ren] at h; cases h; exact .nilFn
  | .ifc t v, _, h => by
    simp only [ren] at h
    cases h with
    | ifc _ _ V hV => exact .ifc t v V (ren_VR v hV)
  | .nilIfc, _, h => by simp only [ren] at h; cases h; exact .nilIfc
  | .agg l, _, h => by
    simp only [ren] at h
    cases h with
    | agg _ L hL => exact .agg l L (rens_VRs l hL)
  | .tup l, _, h => by
    simp only [ren] at h
    cases h with
    | tup _ L hL => exact .tup l L (rens_VRs l hL)
theorem rens_VRs : ∀ (l : List AV) {L : List Value}, VRs κ (rens ρ l) L → VRs (fun b => κ (ρ b)) l L
  | [], _, h => by simp only [rens] at h; cases h; exact .nil
  | v :: l, _, h => by
    simp only [rens] at h
    cases h with
    | cons _ V _ L h1 h2 => exact .cons v V l L (ren_VR v h1) (rens_VRs l h2)
end
end
/-- A value without blocks. -/
def isScA : AV → Bool
  | .bool _ | .int _ _ | .str _ | .nilPtr | .nilSlc | .nilMap | .nilFn | .nilIfc => true
  | _ => false
theorem sc_ren {v : AV} (h : isScA v = true) (ρ : Nat → Nat) : ren ρ v = v := by cases v <;> first | rfl | cases h
theorem sc_VR {v : AV} {κ κ' : Kap} {V : Value} (h : isScA v = true) (hv : VR κ v V) : VR κ' v V := by
  cases hv <;> first | cases h; done | (first | constructor; done | (constructor; assumption))
mutual
/-- A value reads so. -/
inductive RdA (w : Bool) (M : Mem) : AV → Dat → Prop
  | v (x : EV) (h : isScA x.toAV = true) : RdA w M x.toAV (.v x)
  | agg (l : List AV) (ds : List Dat) (h : RdAs w M l ds) : RdA w M (.agg l) (.agg ds)
  | sl (b n es : Nat) (c : Option Nat) (cs : List AV) (wr : Bool) (ds : List Dat) (hb : M.get b = some (.cells cs wr)) (hw : w = true → wr = true) (hn : n ≠ 0) (h : RdAs w M cs ds) : RdA w M (.slc b 0 n c es) (.sl c es n ds)
inductive RdAs (w : Bool) (M : Mem) : List AV → List Dat → Prop
  | nil : RdAs w M [] []
  | cons (v : AV) (d : Dat) (l : List AV) (ds : List Dat) (h : RdA w M v d) (hs : RdAs w M l ds) : RdAs w M (v :: l) (d :: ds)
end
mutual
/-- Data laid into a memory, read only. -/
def allocA (M : Mem) : Dat → AV × Mem
  | .v x => (x.toAV, M)
  | .agg l => ((.agg (allocAs M l).1), (allocAs M l).2)
  | .sl c es n l => (.slc (allocAs M l).2.next 0 n c es, { get := ((allocAs M l).2.set (allocAs M l).2.next (.cells (allocAs M l).1 false)).get, next := (allocAs M l).2.next + 1 })
def allocAs (M : Mem) : List Dat → List AV × Mem
  | [] => ([], M)
  | d :: l => ((allocA M d).1 :: (allocAs (allocA M d).2 l).1, (allocAs (allocA M d).2 l).2)
end
/-! ### The results of a call, laid into another memory -/
/-- Memory M₁ is M with new blocks that are read only and were not in the world w. -/
structure Grown (κ : Kap) (M : Mem) (w w' : World) (κ₁ : Kap) (M₁ : Mem) : Prop where
  rel : Rel κ₁ M₁ w'
  le : κ.le κ₁
  next : M.next ≤ M₁.next
  old : ∀ B, B < M.next → M₁.get B = M.get B ∧ κ₁ B = κ B
  new : ∀ B o k, M.next ≤ B → M₁.get B = some o → κ₁ B = some k → o.wr = false ∧ w.heap.size ≤ k.blk
section
variable {κ : Kap} {M : Mem} {w w' : World} {κr : Kap} {Mr : Mem}
mutual
theorem alloc_rel (hr : Rel κr Mr w') (hnew : ∀ B cs k, Mr.get B = some (.cells cs true) → κr B = some k → w.heap.size ≤ k.blk) (hold : ∀ B k, κ B = some k → k.blk < w.heap.size) :
    ∀ (d : Dat) (v : AV) (V : Value) (κ₁ : Kap) (M₁ : Mem), RdA true Mr v d → VR κr v V → Grown κ M w w' κ₁ M₁ → ∃ κ₂, Grown κ M w w' κ₂ (allocA M₁ d).2 ∧ κ₁.le κ₂ ∧ VR κ₂ (allocA M₁ d).1 V
  | .v x, v, V, κ₁, M₁, h, hv, hg => by
    cases h with
    | v _ hs => exact ⟨κ₁, hg, Kap.le_refl _, sc_VR hs hv⟩
  | .agg l, v, V, κ₁, M₁, h, hv, hg => by
    cases h with
    | agg vs _ hs =>
      cases hv with
      | agg _ L hL =>
        obtain ⟨κ₂, h1, h2, h3⟩ := allocs_rel hr hnew hold l vs L.toList κ₁ M₁ hs hL hg
        exact ⟨κ₂, h1, h2, .agg _ _ h3⟩
  | .sl c es n l, v, V, κ₁, M₁, h, hv, hg => by
    cases h with
    | sl b _ _ _ cs wr _ hb hw hn hs =>
      obtain rfl : wr = true := hw rfl
      cases hv with
      | slcE => exact absurd rfl hn
      | slc _ _ _ _ _ k cap hk h2 h3 h4 h5 =>
        obtain ⟨k', hk', hO⟩ := hr.obj b _ hb
        rw [hk] at hk'; cases hk'
        obtain ⟨C, e, fz, g1, g2, g3, g4, g5⟩ := hO
        -- the cells of the block
        have hcells : VRs κr cs ((C.toList.drop k.off).take cs.length) := by
          refine VRs.of_get (by simp; omega) ?_
          intro i u U hu hU
          have hi : i < cs.length := lt_of_get hu
          obtain ⟨U', hU', hr'⟩ := g4 i u hu
          rw [List.getElem?_take, if_pos hi, List.getElem?_drop] at hU
          simp only [Array.getElem?_toList] at hU
          rw [hU'] at hU; cases hU
          exact hr'
        obtain ⟨κ₂, f1, f2, f3⟩ := allocs_rel hr hnew hold l cs _ κ₁ M₁ hs hcells hg
        have hlen : (allocAs M₁ l).1.length = cs.length := by
          have := f3.length
          rw [this]; simp; omega
        have hblk := hnew b cs k hb hk
        have hfree : κ₂ (allocAs M₁ l).2.next = none := f1.rel.fresh _ (Nat.le_refl _)
        have hle := Kap.le_put hfree k
        refine ⟨κ₂.put (allocAs M₁ l).2.next k, ⟨⟨?_, ?_, ?_, ?_⟩, Kap.le_trans f1.le hle, ?_, ?_, ?_⟩, Kap.le_trans f2 hle, ?_⟩
        · intro B o hB
          simp only [allocA] at hB
          rw [Mem.set_get] at hB
          by_cases eB : B = (allocAs M₁ l).2.next
          · rw [if_pos eB] at hB
            cases hB
            refine ⟨k, by rw [eB]; exact Kap.put_same _ _ _, C, e, fz, g1, g2, by rw [hlen]; exact g3, ?_, fun hh => by cases hh⟩
            intro i u hu
            obtain ⟨U, hU, hur⟩ := f3.get hu
            have hi : i < cs.length := by have := lt_of_get hu; omega
            rw [List.getElem?_take, if_pos hi, List.getElem?_drop] at hU
            exact ⟨U, by simpa using hU, hur.mono hle⟩
          · rw [if_neg eB] at hB
            obtain ⟨kB, hkB, hOB⟩ := f1.rel.obj B o hB
            exact ⟨kB, hle _ _ hkB, hOB.mono hle⟩
        · intro B B' o o' kB kB' h1 hwr h1' h2' h2'' hbb
          simp only [allocA] at h1 h1'
          rw [Mem.set_get] at h1 h1'
          by_cases eB : B = (allocAs M₁ l).2.next
          · rw [if_pos eB] at h1; cases h1; cases hwr
          · rw [if_neg eB] at h1
            rw [Kap.put_ne _ _ eB] at h2'
            by_cases eB' : B' = (allocAs M₁ l).2.next
            · exfalso
              rw [eB', Kap.put_same] at h2''
              cases h2''
              -- an old writable block lies in the old world
              rcases Nat.lt_or_ge B M.next with hlt | hge
              · have := hold B kB (by rw [← (f1.old B hlt).2]; exact h2')
                omega
              · have := (f1.new B o kB hge h1 h2').1
                rw [hwr] at this; cases this
            · rw [if_neg eB'] at h1'
              rw [Kap.put_ne _ _ eB'] at h2''
              exact f1.rel.sep B B' o o' kB kB' h1 hwr h1' h2' h2'' hbb
        · intro B hB
          simp only [allocA] at hB
          rw [Kap.put_ne _ _ (by omega)]
          exact f1.rel.fresh B (by omega)
        · intro B kB hB
          by_cases eB : B = (allocAs M₁ l).2.next
          · rw [eB, Kap.put_same] at hB; cases hB; exact hr.inb _ _ hk
          · rw [Kap.put_ne _ _ eB] at hB; exact f1.rel.inb _ _ hB
        · have := f1.next
          simp only [allocA]; omega
        · intro B hB
          have hlt := f1.next
          simp only [allocA]
          rw [Mem.set_get, if_neg (by omega), Kap.put_ne _ _ (by omega)]
          exact f1.old B hB
        · intro B o kB hge hB hkB
          simp only [allocA] at hB
          rw [Mem.set_get] at hB
          by_cases eB : B = (allocAs M₁ l).2.next
          · rw [if_pos eB] at hB; cases hB
            rw [eB, Kap.put_same] at hkB; cases hkB
            exact ⟨rfl, hblk⟩
          · rw [if_neg eB] at hB; rw [Kap.put_ne _ _ eB] at hkB
            exact f1.new B o kB hge hB hkB
        · exact .slc _ _ _ _ _ k cap (Kap.put_same _ _ _) h2 h3 h4 h5
theorem allocs_rel (hr : Rel κr Mr w') (hnew : ∀ B cs k, Mr.get B = some (.cells cs true) → κr B = some k → w.heap.size ≤ k.blk) (hold : ∀ B k, κ B = some k → k.blk < w.heap.size) :
    ∀ (ds : List Dat) (l : List AV) (L : List Value) (κ₁ : Kap) (M₁ : Mem), RdAs true Mr l ds → VRs κr l L → Grown κ M w w' κ₁ M₁ → ∃ κ₂, Grown κ M w w' κ₂ (allocAs M₁ ds).2 ∧ κ₁.le κ₂ ∧ VRs κ₂ (allocAs M₁ ds).1 L
  | [], l, L, κ₁, M₁, h, hv, hg => by
    cases h
    cases hv
    exact ⟨κ₁, hg, Kap.le_refl _, .nil⟩
  | d :: ds, l, L, κ₁, M₁, h, hv, hg => by
    cases h with
    | cons v _ l' _ h1 h2 =>
      cases hv with
      | cons _ V _ L' g1 g2 =>
        obtain ⟨κ₂, a1, a2, a3⟩ := alloc_rel hr hnew hold d v V κ₁ M₁ h1 g1 hg
        obtain ⟨κ₃, b1, b2, b3⟩ := allocs_rel hr hnew hold ds l' L' κ₂ _ h2 g2 a1
        exact ⟨κ₃, b1, Kap.le_trans a2 b2, .cons _ _ _ _ (a3.mono b2) b3⟩
end
end
end Go.E
end
section
namespace Go.E
open Go.A
/-- Only blocks below n matter. -/
def blw (n : Nat) (v : AV) : Prop := ∀ ρ ρ' : Nat → Nat, (∀ b, b < n → ρ b = ρ' b) → ren ρ v = ren ρ' v
def blws (n : Nat) (l : List AV) : Prop := ∀ ρ ρ' : Nat → Nat, (∀ b, b < n → ρ b = ρ' b) → rens ρ l = rens ρ' l
theorem blw.mono {n m : Nat} (h : n ≤ m) {v : AV} (hv : blw n v) : blw m v := fun ρ ρ' hh => hv ρ ρ' fun b hb => hh b (by omega)
theorem blws.mono {n m : Nat} (h : n ≤ m) {v : List AV} (hv : blws n v) : blws m v := fun ρ ρ' hh => hv ρ ρ' fun b hb => hh b (by omega)
/-- M₁'s blocks stand for blocks of M. -/
structure Emb (M : Mem) (ρ : Nat → Nat) (M₁ : Mem) : Prop where
  obj : ∀ b o, M₁.get b = some o → b < M₁.next ∧ ∃ cs₀ cs wr, o = .cells cs₀ false ∧ M.get (ρ b) = some (.cells cs wr) ∧ rens ρ cs₀ = cs ∧ blws M₁.next cs₀
  out : ∀ b, M₁.next ≤ b → M.next ≤ ρ b
section
variable {M : Mem}
mutual
theorem emb_alloc : ∀ (d : Dat) (v : AV) (ρ : Nat → Nat) (M₁ : Mem), RdA false M v d → Emb M ρ M₁ →
    ∃ ρ', (∀ b, b < M₁.next → ρ' b = ρ b) ∧ Emb M ρ' (allocA M₁ d).2 ∧ ren ρ' (allocA M₁ d).1 = v ∧ M₁.next ≤ (allocA M₁ d).2.next ∧ blw (allocA M₁ d).2.next (allocA M₁ d).1
  | .v x, v, ρ, M₁, h, he => by
    cases h with
    | v _ hs => exact ⟨ρ, fun _ _ => rfl, he, sc_ren hs ρ, Nat.le_refl _, fun ρ ρ' _ => by simp only [allocA]; rw [sc_ren hs, sc_ren hs]⟩
  | .agg l, v, ρ, M₁, h, he => by
    cases h with
    | agg vs _ hs =>
      obtain ⟨ρ', h1, h2, h3, h4, h5⟩ := embs_alloc l vs ρ M₁ hs he
      exact ⟨ρ', h1, h2, by simp only [allocA, ren, h3], h4, fun a b hab => by simp only [allocA, ren]; rw [h5 a b hab]⟩
  | .sl c es n l, v, ρ, M₁, h, he => by
    cases h with
    | sl b _ _ _ cs wr _ hb hw hn hs =>
      obtain ⟨ρ₁, h1, h2, h3, h4, h5⟩ := embs_alloc l cs ρ M₁ hs he
      -- the new number stands for b
      refine ⟨fun x => if x = (allocAs M₁ l).2.next then b else ρ₁ x, ?_, ⟨?_, ?_⟩, ?_, ?_, ?_⟩
      · intro x hx
        simp only
        rw [if_neg (by omega)]; exact h1 x hx
      · intro x o hx
        simp only [allocA] at hx ⊢
        rw [Mem.set_get] at hx
        have hagree : ∀ y, y < (allocAs M₁ l).2.next → (fun x => if x = (allocAs M₁ l).2.next then b else ρ₁ x) y = ρ₁ y := fun y hy => if_neg (by omega)
        by_cases e : x = (allocAs M₁ l).2.next
        · rw [if_pos e] at hx
          cases hx
          refine ⟨by omega, _, cs, wr, rfl, by rw [if_pos e]; exact hb, ?_, h5.mono (by omega)⟩
          rw [h5 _ ρ₁ hagree]; exact h3
        · rw [if_neg e] at hx
          obtain ⟨g0, cs₀, cs', wr', g1, g2, g3, g4⟩ := h2.obj x o hx
          refine ⟨by omega, cs₀, cs', wr', g1, by rw [if_neg e]; exact g2, ?_, g4.mono (by omega)⟩
          rw [g4 _ ρ₁ hagree]; exact g3
      · intro x hx
        simp only [allocA] at hx
        rw [if_neg (by omega)]
        exact h2.out x (by omega)
      · simp only [allocA, ren, if_true]
      · simp only [allocA]; omega
      · intro a b' hab
        simp only [allocA, ren]
        rw [hab _ (by simp only [allocA]; omega)]
theorem embs_alloc : ∀ (ds : List Dat) (l : List AV) (ρ : Nat → Nat) (M₁ : Mem), RdAs false M l ds → Emb M ρ M₁ →
    ∃ ρ', (∀ b, b < M₁.next → ρ' b = ρ b) ∧ Emb M ρ' (allocAs M₁ ds).2 ∧ rens ρ' (allocAs M₁ ds).1 = l ∧ M₁.next ≤ (allocAs M₁ ds).2.next ∧ blws (allocAs M₁ ds).2.next (allocAs M₁ ds).1
  | [], l, ρ, M₁, h, he => by
    cases h
    exact ⟨ρ, fun _ _ => rfl, he, rfl, Nat.le_refl _, fun _ _ _ => rfl⟩
  | d :: ds, l, ρ, M₁, h, he => by
    cases h with
    | cons v _ l' _ h1 h2 =>
      obtain ⟨ρ₁, a1, a2, a3, a4, a5⟩ := emb_alloc d v ρ M₁ h1 he
      obtain ⟨ρ₂, b1, b2, b3, b4, b5⟩ := embs_alloc ds l' ρ₁ _ h2 a2
      refine ⟨ρ₂, fun b hb => by rw [b1 b (by omega), a1 b hb], b2, ?_, by simp only [allocAs]; omega, ?_⟩
      · simp only [allocAs, rens]
        rw [a5 ρ₂ ρ₁ b1, a3, b3]
      · intro a b hab
        simp only [allocAs, rens]
        rw [b5 a b hab, (a5.mono b4) a b hab]
end
end
def mem0 : Mem := { get := fun _ => none, next := 0 }
/-- A call on plain data. -/
def PureCall (P : Program) (f : FuncId) (ds rs : List Dat) : Prop :=
  ∀ (M : Mem) (args : List AV), RdAs false M args ds → CallF P f args M fun out M' => out = .ret (outv (allocAs M rs).1) ∧ M' = (allocAs M rs).2
theorem outv_VR {κ κ' : Kap} {l l' : List AV} {V : Value} (hl : l.length = l'.length) (h : VR κ (outv l) V) (hs : ∀ L, VRs κ l L → VRs κ' l' L) : VR κ' (outv l') V := by
  match l, l', hl with
  | [], [], _ => cases h with | tup _ L hL => exact .tup _ _ (hs _ hL)
  | [v], [v'], _ =>
    have := hs [V] (.cons v V [] [] h .nil)
    cases this with | cons _ _ _ _ h1 _ => exact h1
  | v :: u :: l, v' :: u' :: l', _ => cases h with | tup _ L hL => exact .tup _ _ (hs _ hL)
/-- What holds in the arguments' own memory holds everywhere. -/
theorem PureCall.of_canon {P : Program} {f : FuncId} {ds rs : List Dat}
    (h : CallF P f (allocAs mem0 ds).1 (allocAs mem0 ds).2 fun out M' => ∃ l, out = .ret (outv l) ∧ RdAs true M' l rs) : PureCall P f ds rs := by
  intro M args hargs
  obtain ⟨ρ, _, he, hren, _, _⟩ := embs_alloc (M := M) ds args (fun b => M.next + b) mem0 hargs ⟨(fun b o hb => by cases hb), (fun b _ => by omega)⟩
  refine ⟨h.1, ?_⟩
  intro κ w V hr hV
  generalize hM0 : (allocAs mem0 ds).2 = M0 at he h
  generalize hA0 : (allocAs mem0 ds).1 = A0 at hren h
  -- the arguments' own memory stands for a part of the world
  have hr0 : Rel (fun b => κ (ρ b)) M0 w := by
    refine ⟨?_, ?_, ?_, ?_⟩
    · intro B o hB
      obtain ⟨_, cs₀, cs, wr, rfl, g2, g3, _⟩ := he.obj B o hB
      obtain ⟨k, hk, C, e, fz, c1, c2, c3, c4, c5⟩ := hr.obj (ρ B) _ g2
      have hlen : cs₀.length = cs.length := by rw [← g3, rens_map]; simp
      refine ⟨k, hk, C, e, fz, c1, c2, by rw [hlen]; exact c3, ?_, fun hh => by cases hh⟩
      intro i v hi
      obtain ⟨U, hU, hur⟩ := c4 i (ren ρ v) (by rw [← g3, rens_map, List.getElem?_map, hi]; rfl)
      exact ⟨U, hU, ren_VR v hur⟩
    · intro B B' o o' k k' h1 hwr
      obtain ⟨_, cs₀, cs, wr, rfl, _⟩ := he.obj B o h1
      cases hwr
    · intro B hB
      exact hr.fresh _ (he.out B hB)
    · intro B k hB
      exact hr.inb _ _ hB
  have hV0 : VRs (fun b => κ (ρ b)) A0 V.toList := rens_VRs A0 (by rw [hren]; exact hV)
  refine (h.2 _ w V hr0 hV0).mono ?_
  rintro e w' ⟨κr, out, Mr, ⟨l, rfl, hrd⟩, hout, mv⟩
  -- the results' blocks are new
  have hnew : ∀ B cs k, Mr.get B = some (.cells cs true) → κr B = some k → w.heap.size ≤ k.blk := by
    intro B cs k hB hk
    rcases Nat.lt_or_ge k.blk w.heap.size with hlt | hge
    · exfalso
      obtain ⟨B₀, o₀, k₀, a1, a2, _, _⟩ := mv.st.own.own B _ k hB hk hlt
      obtain ⟨_, cs₀, cs', wr, rfl, _⟩ := he.obj B₀ o₀ a1
      have := a2 rfl
      cases this
    · exact hge
  have hold : ∀ B k, κ B = some k → k.blk < w.heap.size := fun B k hk => hr.inb B k hk
  -- the old blocks are as they were
  have hsame : ∀ c, c < w.heap.size → w'.heap[c]? = w.heap[c]? := fun c hc => mv.st.fr.block c hc fun B o k h1 h2 _ => by
    obtain ⟨_, cs₀, cs', wr, rfl, _⟩ := he.obj B o h1
    cases h2
  have hrel' : Rel κ M w' := ⟨fun B o hB => let ⟨k, hk, ho⟩ := hr.obj B o hB; ⟨k, hk, ho.heap (hsame _ (hr.inb _ _ hk))⟩, hr.sep, hr.fresh, fun B k hk => by have := hr.inb B k hk; have := mv.st.fr.size; omega⟩
  have hg : Grown κ M w w' κ M := ⟨hrel', Kap.le_refl _, Nat.le_refl _, fun _ _ => ⟨rfl, rfl⟩, fun B o k hge hB hk => by rw [hr.fresh B hge] at hk; cases hk⟩
  cases e with
  | returned R =>
    have hlen : ∀ (ds : List Dat) (l : List AV) (M₁ : Mem), RdAs true Mr l ds → l.length = (allocAs M₁ ds).1.length := by
      intro ds
      induction ds with
      | nil => intro l M₁ h; cases h; rfl
      | cons d ds ih => intro l M₁ h; cases h with | cons _ _ _ _ h1 h2 => simp only [allocAs, List.length_cons]; rw [ih _ _ h2]
    -- the values, whatever they are laid for
    have hR : VR κr (outv l) R := hout
    have key : ∃ L, VRs κr l L ∧ (∀ κ' l', l'.length = l.length → VRs κ' l' L → VR κ' (outv l') R) := by
      match l, hR with
      | [], hR => cases hR with | tup _ L hL => exact ⟨_, hL, fun κ' l' hl hh => by match l', hl with | [], _ => exact .tup _ _ hh⟩
      | [v], hR => exact ⟨[R], .cons _ _ _ _ hR .nil, fun κ' l' hl hh => by match l', hl with | [v'], _ => cases hh with | cons _ _ _ _ h1 _ => exact h1⟩
      | v :: u :: t, hR => cases hR with | tup _ L hL => exact ⟨_, hL, fun κ' l' hl hh => by match l', hl with | v' :: u' :: t', _ => exact .tup _ _ hh⟩
    obtain ⟨L, hL1, hL2⟩ := key
    obtain ⟨κ₂, g1, g2, g3⟩ := allocs_rel mv.st.rel hnew hold rs l L κ M hrd hL1 hg
    refine ⟨κ₂, _, _, ⟨rfl, rfl⟩, ?_, ⟨⟨g1.rel, ⟨g1.le, g1.next, ?_⟩, ⟨mv.st.fr.os, mv.st.fr.tape, mv.st.fr.output, mv.st.fr.size, fun c hc _ => hsame c hc⟩⟩, ⟨fun B hB => (g1.old B hB).2, fun B hB hn => by rw [(g1.old B hB).1]; exact hn⟩⟩⟩
    · exact hL2 κ₂ _ (hlen rs l M hrd).symm g3
    · intro B o k hB hk hlt
      rcases Nat.lt_or_ge B M.next with hB' | hB'
      · obtain ⟨e1, e2⟩ := g1.old B hB'
        exact ⟨B, o, k, by rw [← e1]; exact hB, fun hh => hh, by rw [← e2]; exact hk, rfl⟩
      · have := (g1.new B o k hB' hB hk).2
        omega
  | panicked chain => exact hout.elim
  | outgrown => exact hout.elim
end Go.E
end
section
namespace Go.E
open Go.A
/-- Scalars that are surely the same. -/
def scA : AV → AV → Bool
  | .bool a, .bool b => a == b
  | .int k a, .int k' b => decide (k = k') && decide (a = b)
  | .str a, .str b => a == b
  | .nilPtr, .nilPtr => true
  | .nilSlc, .nilSlc => true
  | .nilMap, .nilMap => true
  | .nilFn, .nilFn => true
  | .nilIfc, .nilIfc => true
  | _, _ => false
theorem scA_eq {a b : AV} (h : scA a b = true) : b = a ∧ isScA a = true := by
  unfold scA at h
  split at h <;> first | (cases h; done) | (refine ⟨?_, rfl⟩; simp at h; simp [h]; done) | exact ⟨rfl, rfl⟩
abbrev Acc := EM → Nat → (Nat → EV → Tr EV → Bool) → Bool
noncomputable section
def scEq (x v : EV) : Bool :=
  x.natD (fun a => v.natD (fun b => Nat.beq a b) false) (x.u64D (fun a => v.u64D (fun b => Nat.beq a b) false) (x.boolD (fun a => v.boolD (fun b => bt a b (Bool.not b)) false)
    (x.bytD (fun a => v.bytD (fun b => Nat.beq a b) false) (x.strD (fun l p => v.strD (fun l' p' => strB l p l' p') false) (scA x.toAV v.toAV)))))
/-- A value reads as data. -/
def mD (acc : Acc) (d : Dat) : EV → EM → Bool :=
  Dat.rec (motive_1 := fun _ => EV → EM → Bool) (motive_2 := fun _ => List EV → EM → Bool) (fun x v _ => scEq x v)
    (fun _ ihs v M => v.aggD (fun l => ihs l M) false)
    (fun c es n _ ihs v M => v.slcD (fun b o n' c' es' => bt (Nat.beq o 0) (bt (Nat.beq n n') (bt (Nat.ble 1 n') (bt (Nat.beq es es') (bt (optEq c c') (acc M b fun N d t => rdL N 0 t d [] fun l => ihs l M) false) false) false) false) false) false)
    (fun l _ => isNilL l)
    (fun _ _ ih ihs l M => List.rec (motive := fun _ => Bool) false (fun v l _ => bt (ih v M) (ihs l M) false) l) d
def mDs (acc : Acc) (ds : List Dat) : List EV → EM → Bool :=
  Dat.rec_1 (motive_1 := fun _ => EV → EM → Bool) (motive_2 := fun _ => List EV → EM → Bool) (fun x v _ => scEq x v)
    (fun _ ihs v M => v.aggD (fun l => ihs l M) false)
    (fun c es n _ ihs v M => v.slcD (fun b o n' c' es' => bt (Nat.beq o 0) (bt (Nat.beq n n') (bt (Nat.ble 1 n') (bt (Nat.beq es es') (bt (optEq c c') (acc M b fun N d t => rdL N 0 t d [] fun l => ihs l M) false) false) false) false) false) false)
    (fun l _ => isNilL l)
    (fun _ _ ih ihs l M => List.rec (motive := fun _ => Bool) false (fun v l _ => bt (ih v M) (ihs l M) false) l) ds
/-- Data is laid into the memory. -/
def alK (d : Dat) : EM → (EV → EM → Bool) → Bool :=
  Dat.rec (motive_1 := fun _ => EM → (EV → EM → Bool) → Bool) (motive_2 := fun _ => EM → (List EV → EM → Bool) → Bool) (fun x M K => x.force fun x => K x M)
    (fun _ ihs M K => ihs M fun l M => K (.agg l) M)
    (fun c es n _ ihs M K => ihs M fun l M => wrL l 0 .nil fun t => forceN (lenL l) fun len => M.newK (.ro len (.oth .junk) t) fun id M => K (.slc id 0 n c es) M)
    (fun M K => K [] M)
    (fun _ _ ih ihs M K => ih M fun v M => ihs M fun l M => K (v :: l) M) d
def alsK (ds : List Dat) : EM → (List EV → EM → Bool) → Bool :=
  Dat.rec_1 (motive_1 := fun _ => EM → (EV → EM → Bool) → Bool) (motive_2 := fun _ => EM → (List EV → EM → Bool) → Bool) (fun x M K => x.force fun x => K x M)
    (fun _ ihs M K => ihs M fun l M => K (.agg l) M)
    (fun c es n _ ihs M K => ihs M fun l M => wrL l 0 .nil fun t => forceN (lenL l) fun len => M.newK (.ro len (.oth .junk) t) fun id M => K (.slc id 0 n c es) M)
    (fun M K => K [] M)
    (fun _ _ ih ihs M K => ih M fun v M => ihs M fun l M => K (v :: l) M) ds
/-- The result reads as the data rs, in new blocks. -/
def resOK (rs : List Dat) (v : EV) (M : EM) : Bool :=
  List.rec (motive := fun _ => Bool) (v.tupD isNilL false) (fun r rs' _ => List.rec (motive := fun _ => Bool) (mD EM.cellsWK r v M) (fun _ _ _ => v.tupD (fun l => mDs EM.cellsWK (r :: rs') l M) false) rs') rs
/-- A function, on plain data. -/
def evP1 (F : EFn) (H : HC) (ds rs : List Dat) : Bool := alsK ds ⟨.nil, 0⟩ fun args M => runF F H args M fun v M => resOK rs v M
structure PE where
  f : Nat
  ds : List Dat
  rs : List Dat
/-- Calls that are known. -/
def extT (t : List PE) (next : HC) : HC :=
  List.rec (motive := fun _ => HC) next (fun e _ ih f args M K => PE.rec (motive := fun _ => Bool) (fun f' ds rs => bt (Nat.beq f f') (bt (mDs EM.cellsK ds args M) (alsK rs M fun l M => (outE l).force fun v => K v M) (ih f args M K)) (ih f args M K)) e) t
end
section
theorem scEq_spec {x v : EV} (h : scEq x v = true) : v.toAV = x.toAV ∧ isScA x.toAV = true := by
  unfold scEq at h
  replace h := natD_spec h; rcases h with ⟨a, rfl, h⟩ | h
  · replace h := natD_spec h; rcases h with ⟨b, rfl, h⟩ | h
    · rw [Nat.eq_of_beq_eq_true h]; exact ⟨rfl, rfl⟩
    · cases h
  replace h := u64D_spec h; rcases h with ⟨a, rfl, h⟩ | h
  · replace h := u64D_spec h; rcases h with ⟨b, rfl, h⟩ | h
    · rw [Nat.eq_of_beq_eq_true h]; exact ⟨rfl, rfl⟩
    · cases h
  replace h := boolD_spec h; rcases h with ⟨a, rfl, h⟩ | h
  · replace h := boolD_spec h; rcases h with ⟨b, rfl, h⟩ | h
    · cases a <;> cases b <;> first | exact ⟨rfl, rfl⟩ | cases h
    · cases h
  replace h := bytD_spec h; rcases h with ⟨a, rfl, h⟩ | h
  · replace h := bytD_spec h; rcases h with ⟨b, rfl, h⟩ | h
    · rw [Nat.eq_of_beq_eq_true h]; exact ⟨rfl, rfl⟩
    · cases h
  replace h := strD_spec h; rcases h with ⟨l, p, rfl, h⟩ | h
  · replace h := strD_spec h; rcases h with ⟨l', p', rfl, h⟩ | h
    · rw [strB_eq, beq_iff_eq] at h
      exact ⟨by simp only [EV.toAV, h], rfl⟩
    · cases h
  exact scA_eq h
/-- What an access to cells gives. -/
def AccOK (w : Bool) (acc : Acc) : Prop := ∀ (M : EM) (b : Nat) (K : Nat → EV → Tr EV → Bool), acc M b K = true → ∃ n d t wr, K n d t = true ∧ M.toMem.get b = some (.cells (cellsL n d t) wr) ∧ (w = true → wr = true)
theorem acc_any : AccOK false EM.cellsK := fun M b K h => by
  obtain ⟨n, d, t, wr, h1, h2⟩ := EM.cellsK_spec h
  exact ⟨n, d, t, wr, h1, h2, fun hh => by cases hh⟩
theorem acc_wr : AccOK true EM.cellsWK := fun M b K h => by
  obtain ⟨n, d, t, h1, h2⟩ := EM.cellsWK_spec h
  exact ⟨n, d, t, true, h1, h2, fun _ => rfl⟩
variable {w : Bool} {acc : Acc} {M : EM}
theorem slc_case (ha : AccOK w acc) {c : Option Nat} {es n : Nat} {l : List Dat} {v : EV} {ihs : List EV → Bool} (hihs : ∀ vs, ihs vs = true → RdAs w M.toMem (EV.toAVs vs) l)
    (h : v.slcD (fun b o n' c' es' => bt (Nat.beq o 0) (bt (Nat.beq n n') (bt (Nat.ble 1 n') (bt (Nat.beq es es') (bt (optEq c c') (acc M b fun N d t => rdL N 0 t d [] ihs) false) false) false) false) false) false = true) : RdA w M.toMem v.toAV (.sl c es n l) := by
  replace h := slcD_spec h; rcases h with ⟨b, o, n', c', es', rfl, h⟩ | h
  · replace h := bt_spec h; rcases h with ⟨e1, h⟩ | ⟨_, h⟩
    · replace h := bt_spec h; rcases h with ⟨e2, h⟩ | ⟨_, h⟩
      · replace h := bt_spec h; rcases h with ⟨e3, h⟩ | ⟨_, h⟩
        · replace h := bt_spec h; rcases h with ⟨e4, h⟩ | ⟨_, h⟩
          · replace h := bt_spec h; rcases h with ⟨e5, h⟩ | ⟨_, h⟩
            · obtain rfl := Nat.eq_of_beq_eq_true e1
              obtain rfl := Nat.eq_of_beq_eq_true e2
              obtain rfl := Nat.eq_of_beq_eq_true e4
              obtain rfl := optEq_eq e5
              have hn : n ≠ 0 := by have := Nat.le_of_ble_eq_true e3; omega
              obtain ⟨N, d, t, wr, h1, hb, hw⟩ := ha M b _ h
              obtain ⟨vs, h1, hl1, hl2⟩ := rdL_spec h1
              rw [List.append_nil] at h1
              have hcs := rdL_cells (n := N) hl1 hl2 (by omega)
              rw [List.drop_zero, List.take_of_length_le (by rw [cellsL_length]; omega)] at hcs
              exact .sl b n es c _ wr l hb hw hn (by rw [← hcs]; exact hihs vs h1)
            · cases h
          · cases h
        · cases h
      · cases h
    · cases h
  · cases h
mutual
theorem mD_spec (ha : AccOK w acc) : ∀ (d : Dat) (v : EV), mD acc d v M = true → RdA w M.toMem v.toAV d
  | .v x, v, h => by
    obtain ⟨h1, h2⟩ := scEq_spec (x := x) (v := v) h
    rw [h1]; exact .v x h2
  | .agg l, v, h => by
    have h' : v.aggD (fun vs => mDs acc l vs M) false = true := h
    replace h' := aggD_spec h'; rcases h' with ⟨vs, rfl, h'⟩ | h'
    · exact .agg _ _ (mDs_spec ha l vs h')
    · cases h'
  | .sl c es n l, v, h => slc_case ha (ihs := fun vs => mDs acc l vs M) (fun vs hv => mDs_spec ha l vs hv) h
theorem mDs_spec (ha : AccOK w acc) : ∀ (ds : List Dat) (l : List EV), mDs acc ds l M = true → RdAs w M.toMem (EV.toAVs l) ds
  | [], l, h => by
    rw [isNilL_eq h]; exact .nil
  | d :: ds, l, h => by
    cases l with
    | nil => cases h
    | cons v l =>
      have h' : bt (mD acc d v M) (mDs acc ds l M) false = true := h
      replace h' := bt_spec h'; rcases h' with ⟨h1, h2⟩ | ⟨_, h2⟩
      · exact .cons _ _ _ _ (mD_spec ha d v h1) (mDs_spec ha ds l h2)
      · cases h2
end
mutual
theorem alK_spec : ∀ (d : Dat) (M : EM) (K : EV → EM → Bool), alK d M K = true → ∃ (v : EV) (M' : EM), K v M' = true ∧ v.toAV = (allocA M.toMem d).1 ∧ M'.toMem = (allocA M.toMem d).2
  | .v x, M, K, h => by
    have h' : (x.force fun x => K x M) = true := h
    rw [force_eq] at h'
    exact ⟨x, M, h', rfl, rfl⟩
  | .agg l, M, K, h => by
    have h' : (alsK l M fun vs M => K (.agg vs) M) = true := h
    obtain ⟨vs, M', h1, h2, h3⟩ := alsK_spec l M _ h'
    exact ⟨_, M', h1, by simp only [EV.toAV, allocA, h2], h3⟩
  | .sl c es n l, M, K, h => by
    have h' : (alsK l M fun l M => wrL l 0 .nil fun t => forceN (lenL l) fun len => M.newK (.ro len (.oth .junk) t) fun id M => K (.slc id 0 n c es) M) = true := h
    obtain ⟨vs, M1, h1, h2, h3⟩ := alsK_spec l M _ h'
    obtain ⟨t, h1, hp⟩ := wrL_spec h1
    rw [forceN_eq] at h1
    obtain ⟨M', h4, h5, h6⟩ := EM.newK_spec h1
    refine ⟨_, M', h4, ?_, ?_⟩
    · simp only [EV.toAV, allocA, ← h3, toMem_next]
    · rw [h5]
      have hc := putL_snoc (d := EV.oth .junk) (n := 0) hp
      simp only [Nat.zero_add, cellsL_zero, List.nil_append] at hc
      simp only [EObj.toObj, lenL_eq, hc, allocA, ← h3, h2, toMem_next]
      rfl
theorem alsK_spec : ∀ (ds : List Dat) (M : EM) (K : List EV → EM → Bool), alsK ds M K = true → ∃ (l : List EV) (M' : EM), K l M' = true ∧ EV.toAVs l = (allocAs M.toMem ds).1 ∧ M'.toMem = (allocAs M.toMem ds).2
  | [], M, K, h => ⟨[], M, h, rfl, rfl⟩
  | d :: ds, M, K, h => by
    have h' : (alK d M fun v M => alsK ds M fun l M => K (v :: l) M) = true := h
    obtain ⟨v, M1, h1, h2, h3⟩ := alK_spec d M _ h'
    obtain ⟨l, M2, h4, h5, h6⟩ := alsK_spec ds M1 _ h1
    refine ⟨v :: l, M2, h4, ?_, ?_⟩
    · simp only [EV.toAVs, allocAs, h2, ← h3, h5]
    · simp only [allocAs, ← h3, h6]
end
theorem resOK_spec {rs : List Dat} {v : EV} (h : resOK rs v M = true) : ∃ l, v.toAV = outv l ∧ RdAs true M.toMem l rs := by
  match rs, h with
  | [], h =>
    have h' : v.tupD isNilL false = true := h
    replace h' := tupD_spec h'; rcases h' with ⟨l, rfl, h'⟩ | h'
    · rw [isNilL_eq h']; exact ⟨[], rfl, .nil⟩
    · cases h'
  | [r], h =>
    have h' : mD EM.cellsWK r v M = true := h
    exact ⟨[v.toAV], rfl, .cons _ _ _ _ (mD_spec acc_wr r v h') .nil⟩
  | r :: r' :: rs, h =>
    have h' : v.tupD (fun l => mDs EM.cellsWK (r :: r' :: rs) l M) false = true := h
    replace h' := tupD_spec h'; rcases h' with ⟨l, rfl, h'⟩ | h'
    · have := mDs_spec acc_wr _ l h'
      refine ⟨EV.toAVs l, ?_, this⟩
      match l, this with
      | a :: b :: l, _ => rfl
      | [a], this => cases this with | cons _ _ _ _ _ h2 => cases h2
      | [], this => cases this
    · cases h'
theorem evP1_spec {P : Program} (hmo : P.follows .mixedOrders = true) {F : EFn} {f : Nat} (hF : Good P f F) {H : HC} {ds rs : List Dat} (hs : HSound P H) (h : evP1 F H ds rs = true) : PureCall P f ds rs := by
  refine PureCall.of_canon ?_
  obtain ⟨args, M, h1, h2, h3⟩ := alsK_spec ds ⟨.nil, 0⟩ _ h
  have hm : (⟨.nil, 0⟩ : EM).toMem = mem0 := rfl
  rw [hm] at h2 h3
  rw [← h2, ← h3]
  refine (runF_sound hmo hF hs h1).mono ?_
  rintro out M' ⟨v, M₁, rfl, rfl, hk⟩
  obtain ⟨l, e, hr⟩ := resOK_spec hk
  exact ⟨l, by rw [e], hr⟩
theorem extT_sound {P : Program} {next : HC} (hn : HSound P next) : ∀ {t : List PE}, (∀ e ∈ t, PureCall P e.f e.ds e.rs) → HSound P (extT t next)
  | [], _ => hn
  | e :: t, he => by
    intro f args M K h
    have ih := extT_sound hn (t := t) (fun x hx => he x (by simp [hx]))
    obtain ⟨f', ds, rs⟩ := e
    have h' : bt (Nat.beq f f') (bt (mDs EM.cellsK ds args M) (alsK rs M fun l M => (outE l).force fun v => K v M) (extT t next f args M K)) (extT t next f args M K) = true := h
    replace h' := bt_spec h'; rcases h' with ⟨hf, h'⟩ | ⟨_, h'⟩
    · replace h' := bt_spec h'; rcases h' with ⟨hm, h'⟩ | ⟨_, h'⟩
      · obtain rfl := Nat.eq_of_beq_eq_true hf
        have hp : PureCall P f ds rs := he ⟨f, ds, rs⟩ (by simp)
        obtain ⟨l, M', h1, h2, h3⟩ := alsK_spec rs M _ h'
        rw [force_eq] at h1
        refine ((hp M.toMem (EV.toAVs args) (mDs_spec acc_any ds args hm)).mono ?_).g
        rintro out M'' ⟨rfl, rfl⟩
        exact ⟨outE l, M', by rw [outE_eq, h2], h3.symm, h1⟩
      · exact ih f args M K h'
    · exact ih f args M K h'
end
end Go.E
end
