/- Calls, regions, functions: part 4. -/
import Derived.Test.YtpbomcnhgmniaaaDoorGi
section
namespace Go.A
inductive AExit where
  | normal
  | exit (id : Nat)
  | goto (l : Nat)
  | ret
  | panic (v : AV)
def ExR (κ : Kap) : AExit → Exit → Prop
  | .normal, .normal => True
  | .exit i, .exit j => i = j
  | .goto i, .goto j => i = j
  | .ret, .ret => True
  | .panic v, .panic chain => ∃ V, chain = [{ v := V, recovered := false }] ∧ VR κ v V
  | _, _ => False
def RD (κ : Kap) : Option Nat → Option Nat → Prop
  | none, none => True
  | some l, some c => ∃ k, κ l = some k ∧ k.blk = c
  | _, _ => False
theorem RD.mono {κ κ' : Kap} (hk : κ.le κ') {rd crd : Option Nat} (h : RD κ rd crd) : RD κ' rd crd := by
  cases rd <;> cases crd <;> first | exact h | exact h.elim | (obtain ⟨k, h1, h2⟩ := h; exact ⟨k, hk _ _ h1, h2⟩)
/-- What the code leaves. -/
def Ends (N : Nat) (κ : Kap) (M : Mem) (w : World) (Q : AExit → St → Prop) (e : Exit) (a' : Act) (w' : World) : Prop :=
  ∃ κ' ae s', Q ae s' ∧ ExR κ' ae e ∧ StR κ' N s' a' w' ∧ Mv κ M w κ' s'.mem w'
def AW (P : Program) (N : Nat) (rd : Option Nat) (c : Code) (Q : AExit → St → Prop) (s : St) : Prop :=
  ∀ κ w a crd, StR κ N s a w → RD κ rd crd → c.wpIn (FW crd) 0 P (Ends N κ s.mem w Q) a w
inductive LCode where
  | skip
  | region (n : Nat) (ops : List (Nat × LOper))
  | seq (a b : LCode)
  | cond (c : Opd) (t e : LCode)
  | block (id : Nat) (b : LCode)
  | loop (b : LCode)
  | exit (id : Nat)
  | ret
  deriving Inhabited
def lowOps (P : Program) (N : Nat) (ops : Array Oper) : List Oper → Nat → Option (List (Nat × LOper))
  | [], _ => some []
  | o :: r, i => match lowO P N ops o, lowOps P N ops r (i + 1) with
    | some l, some m => some ((i, l) :: m)
    | _, _ => none
def lowC (P : Program) (N : Nat) : Code → Option LCode
  | .skip => some .skip
  | .region _ ops false => (lowOps P N ops ops.toList 0).map (.region ops.size)
  | .seq a b => match lowC P N a, lowC P N b with
    | some x, some y => some (.seq x y)
    | _, _ => none
  | .cond c a b => match lowOpd c, lowC P N a, lowC P N b with
    | some o, some x, some y => some (.cond o x y)
    | _, _, _ => none
  | .block id b => (lowC P N b).map (.block id)
  | .loop b => (lowC P N b).map .loop
  | .exit id => some (.exit id)
  | .ret => some .ret
  | _ => none
def LowInv (P : Program) (N : Nat) (c : Code) : LCode → Prop
  | .skip => c = .skip
  | .region n l => ∃ id ops, c = .region id ops false ∧ lowOps P N ops ops.toList 0 = some l ∧ n = ops.size
  | .seq x y => ∃ a b, c = .seq a b ∧ lowC P N a = some x ∧ lowC P N b = some y
  | .cond o x y => ∃ co a b, c = .cond co a b ∧ lowOpd co = some o ∧ lowC P N a = some x ∧ lowC P N b = some y
  | .block id x => ∃ a, c = .block id a ∧ lowC P N a = some x
  | .loop x => ∃ a, c = .loop a ∧ lowC P N a = some x
  | .exit id => c = .exit id
  | .ret => c = .ret
theorem lowC_inv {P : Program} {N : Nat} {c : Code} {lc : LCode} (h : lowC P N c = some lc) : LowInv P N c lc := by
  cases c with
  | skip => simp [lowC] at h; subst h; rfl
  | region id ops draw =>
    cases draw <;> simp [lowC] at h
    obtain ⟨l, hl, rfl⟩ := h
    exact ⟨id, ops, rfl, hl, rfl⟩
  | seq a b =>
    simp only [lowC] at h
    split at h <;> cases h
    exact ⟨a, b, rfl, by assumption, by assumption⟩
  | cond o a b =>
    simp only [lowC] at h
    split at h <;> cases h
    exact ⟨o, a, b, rfl, by assumption, by assumption, by assumption⟩
  | block id a => simp [lowC] at h; obtain ⟨x, hx, rfl⟩ := h; exact ⟨a, rfl, hx⟩
  | loop a => simp [lowC] at h; obtain ⟨x, hx, rfl⟩ := h; exact ⟨a, rfl, hx⟩
  | rangeFunc f ps a b => simp [lowC] at h
  | exit id => simp [lowC] at h; subst h; rfl
  | scope a => simp [lowC] at h
  | label l => simp [lowC] at h
  | goto l => simp [lowC] at h
  | ret => simp [lowC] at h; subst h; rfl
  | refuse why => simp [lowC] at h
def LW (P : Program) (N : Nat) (rd : Option Nat) (lc : LCode) (Q : AExit → St → Prop) (s : St) : Prop :=
  ∀ c, lowC P N c = some lc → AW P N rd c Q s
section
variable {P : Program} {N : Nat} {rd : Option Nat} {Q Q' : AExit → St → Prop} {s : St}
theorem Ends.mono {κ : Kap} {M : Mem} {w : World} (h : ∀ e s, Q e s → Q' e s) {e : Exit} {a : Act} {w' : World} : Ends N κ M w Q e a w' → Ends N κ M w Q' e a w' :=
  fun ⟨κ', ae, s', h1, h2, h3, h4⟩ => ⟨κ', ae, s', h _ _ h1, h2, h3, h4⟩
theorem LW.mono {c : LCode} (hq : ∀ e s, Q e s → Q' e s) (h : LW P N rd c Q s) : LW P N rd c Q' s :=
  fun c hc κ w a crd hs hrd => wpIn_mono (h c hc κ w a crd hs hrd) fun _ _ _ => Ends.mono hq
theorem LW.skip (h : Q .normal s) : LW P N rd .skip Q s := by
  intro c hc κ w a crd hs hrd
  obtain rfl : c = .skip := lowC_inv hc
  exact wpIn_skip ⟨κ, .normal, s, h, trivial, hs, Mv.refl hs.rel⟩
theorem LW.ret (h : Q .ret s) : LW P N rd .ret Q s := by
  intro c hc κ w a crd hs hrd
  obtain rfl : c = .ret := lowC_inv hc
  exact wpIn_ret ⟨κ, .ret, s, h, trivial, hs, Mv.refl hs.rel⟩
theorem LW.exit {id : Nat} (h : Q (.exit id) s) : LW P N rd (.exit id) Q s := by
  intro c hc κ w a crd hs hrd
  obtain rfl : c = .exit id := lowC_inv hc
  exact wpIn_exit ⟨κ, .exit _, s, h, rfl, hs, Mv.refl hs.rel⟩
/-- Behind a first piece: on, or out. -/
def thenA (K : St → Prop) (Q : AExit → St → Prop) : AExit → St → Prop
  | .normal, s => K s
  | e, s => Q e s
theorem LW.seq {x y : LCode} (h : LW P N rd x (thenA (LW P N rd y Q) Q) s) : LW P N rd (.seq x y) Q s := by
  intro c hc κ w a crd hs hrd
  obtain ⟨ca, cb, rfl, ha, hb⟩ := lowC_inv hc
  refine wpIn_seq (wpIn_mono (h ca ha κ w a crd hs hrd) ?_)
  rintro e a' w' ⟨κ', ae, s', h1, h2, h3, h4⟩
  cases ae <;> cases e <;> simp only [ExR] at h2 <;> first | exact ⟨κ', _, s', h1, h2, h3, h4⟩ | skip
  refine wpIn_mono (h1 cb hb κ' w' a' crd h3 (hrd.mono h4.st.own.le)) ?_
  rintro e₂ a₂ w₂ ⟨κ₂, ae₂, s₂, g1, g2, g3, g4⟩
  exact ⟨κ₂, ae₂, s₂, g1, g2, g3, h4.trans g4⟩
theorem LW.cond {c : Opd} {x y : LCode} {b : Bool} (hb : c.ev s.regs = .bool b) (ht : b = true → LW P N rd x Q s) (hf : b = false → LW P N rd y Q s) : LW P N rd (.cond c x y) Q s := by
  intro c' hc κ w a crd hs hrd
  obtain ⟨co, ca, cb, rfl, ho, ha, hb'⟩ := lowC_inv hc
  have hv : VR κ (c.ev s.regs) (a.eval co) := or_of hs co c ho
  rw [hb] at hv
  refine wpIn_cond (vr_bool hv) ?_
  cases b
  · exact hf rfl cb hb' κ w a crd hs hrd
  · exact ht rfl ca ha κ w a crd hs hrd
def inBlockA (id : Nat) (Q : AExit → St → Prop) : AExit → St → Prop
  | .exit i, s => if i = id then Q .normal s else Q (.exit i) s
  | e, s => Q e s
theorem LW.block {id : Nat} {x : LCode} (h : LW P N rd x (inBlockA id Q) s) : LW P N rd (.block id x) Q s := by
  intro c hc κ w a crd hs hrd
  obtain ⟨ca, rfl, ha⟩ := lowC_inv hc
  refine wpIn_block (wpIn_mono (h _ ha κ w a crd hs hrd) ?_)
  rintro e a' w' ⟨κ', ae, s', h1, h2, h3, h4⟩
  cases ae <;> cases e <;> simp only [ExR] at h2
  case exit.exit i j =>
    subst h2
    simp only [inBlockA] at h1
    simp only [Exit.inBlock]
    split
    · rename_i e; rw [if_pos e] at h1; exact ⟨κ', _, s', h1, trivial, h3, h4⟩
    · rename_i e; rw [if_neg e] at h1; exact ⟨κ', .exit _, s', h1, rfl, h3, h4⟩
  all_goals exact ⟨κ', _, s', h1, h2, h3, h4⟩
theorem exists_min {R : Nat → Prop} (h : ∃ n, R n) : ∃ n, R n ∧ ∀ m, R m → n ≤ m := by
  obtain ⟨n, hn⟩ := h
  induction n using Nat.strongRecOn with
  | _ n ih =>
    by_cases hex : ∃ m, m < n ∧ R m
    · obtain ⟨m, hlt, hm⟩ := hex
      exact ih m hlt hm
    · exact ⟨n, hn, fun m hm => Nat.le_of_not_lt fun hlt => hex ⟨m, hlt, hm⟩⟩
theorem LW.loop {x : LCode} (I : St → Prop) (μ : St → Nat) (h0 : I s) (round : ∀ s, I s → LW P N rd x (thenA (fun s' => I s' ∧ μ s' < μ s) Q) s) : LW P N rd (.loop x) Q s := by
  intro c hc κ w a crd hs hrd
  obtain ⟨ca, rfl, ha⟩ := lowC_inv hc
  classical
  let R : Nat → Act → World → Prop := fun n a' w' => ∃ κ' s', I s' ∧ μ s' = n ∧ StR κ' N s' a' w' ∧ Mv κ s.mem w κ' s'.mem w'
  let m : Act → World → Nat := fun a' w' => if h : ∃ n, R n a' w' then Classical.choose (exists_min h) else 0
  have hm : ∀ n a' w', R n a' w' → m a' w' ≤ n := by
    intro n a' w' hR
    have hex : ∃ n, R n a' w' := ⟨n, hR⟩
    simp only [m, dif_pos hex]
    exact (Classical.choose_spec (exists_min hex)).2 n hR
  refine wpIn_loop (fun a' w' => ∃ n, R n a' w') m ⟨_, κ, s, h0, rfl, hs, Mv.refl hs.rel⟩ ?_
  intro a₁ w₁ hex
  have hsp : R (m a₁ w₁) a₁ w₁ := by
    simp only [m, dif_pos hex]
    exact (Classical.choose_spec (exists_min hex)).1
  obtain ⟨κ₁, s₁, hI, hμ, hs₁, mv₁⟩ := hsp
  refine wpIn_mono (round s₁ hI ca ha κ₁ w₁ a₁ crd hs₁ (hrd.mono mv₁.st.own.le)) ?_
  rintro e a' w' ⟨κ', ae, s', h1, h2, h3, h4⟩
  cases ae <;> cases e <;> simp only [ExR] at h2 <;> first | exact ⟨κ', _, s', h1, h2, h3, mv₁.trans h4⟩ | skip
  have hR : R (μ s') a' w' := ⟨κ', s', h1.1, rfl, h3, mv₁.trans h4⟩
  exact ⟨⟨_, hR⟩, by have := hm _ _ _ hR; have := h1.2; omega⟩
end
end Go.A
end
