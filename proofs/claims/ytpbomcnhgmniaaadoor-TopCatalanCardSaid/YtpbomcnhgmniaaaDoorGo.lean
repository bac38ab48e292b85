/- Calls, regions, functions: part 9. -/
import Derived.Test.YtpbomcnhgmniaaaDoorGn
section
namespace Go.A
abbrev Stab := List (Nat × Nat × AV)
def lookS : Stab → Nat → Nat → Option AV
  | [], _, _ => none
  | (b, o, v) :: r, b', o' => if b = b' ∧ o = o' then some v else lookS r b' o'
def lookSn (S : Stab) (b o : Nat) : Nat → Option (List AV)
  | 0 => some []
  | n + 1 => match lookS S b o, lookSn S b (o + 1) n with
    | some v, some l => some (v :: l)
    | _, _ => none
/-- The cells that are to stay as they are while a region runs. -/
def Holds (S : Stab) (M : Mem) : Prop := ∀ x ∈ S, M.rd x.1 x.2.1 = some x.2.2
theorem Holds.look {S : Stab} {M : Mem} (h : Holds S M) {b o : Nat} {v : AV} (hv : lookS S b o = some v) : M.rd b o = some v := by
  induction S with
  | nil => cases hv
  | cons x S ih =>
    obtain ⟨b', o', u⟩ := x
    simp only [lookS] at hv
    split at hv
    · rename_i e
      obtain ⟨rfl, rfl⟩ := e
      cases hv
      exact h (b', o', v) (by simp)
    · exact ih (fun y hy => h y (by simp [hy])) hv
theorem Holds.lookn {S : Stab} {M : Mem} (h : Holds S M) {b : Nat} : ∀ {n o : Nat} {l : List AV}, lookSn S b o n = some l → n ≠ 0 → M.rdn b o n = some l := by
  have key : ∀ {n o : Nat} {l : List AV}, lookSn S b o n = some l → l.length = n ∧ ∀ i v, l[i]? = some v → M.rd b (o + i) = some v := by
    intro n
    induction n with
    | zero => intro o l hl; simp [lookSn] at hl; subst hl; exact ⟨rfl, fun i v hv => by simp at hv⟩
    | succ n ih =>
      intro o l hl
      simp only [lookSn] at hl
      split at hl <;> cases hl
      rename_i v l' h1 h2
      obtain ⟨g1, g2⟩ := ih h2
      refine ⟨by simp [g1], ?_⟩
      intro i u hu
      cases i with
      | zero => simp at hu; subst hu; exact h.look h1
      | succ i =>
        simp at hu
        have := g2 i u hu
        rw [show o + (i + 1) = o + 1 + i from by omega]; exact this
  intro n o l hl hn
  obtain ⟨g1, g2⟩ := key hl
  have h0 : ∃ v, l[0]? = some v := by
    cases l with
    | nil => simp at g1; omega
    | cons a l => exact ⟨a, by simp⟩
  obtain ⟨v0, hv0⟩ := h0
  have r0 := g2 0 v0 hv0
  unfold Mem.rd at r0
  unfold Mem.rdn
  split at r0
  · rename_i cs wr hb
    try simp only
    have rd : ∀ i v, l[i]? = some v → cs[o + i]? = some v := by
      intro i v hv
      have := g2 i v hv
      unfold Mem.rd at this
      rw [hb] at this
      exact this
    have hlast : o + n ≤ cs.length := by
      have hv : ∃ v, l[n - 1]? = some v := by
        have : n - 1 < l.length := by omega
        exact ⟨l[n - 1], by simp [this]⟩
      obtain ⟨v, hv⟩ := hv
      have := rd _ _ hv
      have hlt : o + (n - 1) < cs.length := by
        rcases Nat.lt_or_ge (o + (n - 1)) cs.length with g | g
        · exact g
        · rw [List.getElem?_eq_none g] at this; cases this
      omega
    rw [if_pos hlast]
    congr 1
    apply List.ext_getElem?
    intro i
    rw [List.getElem?_take]
    split
    · rename_i hi
      rw [List.getElem?_drop]
      have : i < l.length := by omega
      have hl : l[i]? = some l[i] := by simp [this]
      rw [hl, rd i _ hl]
    · rename_i hi
      rw [List.getElem?_eq_none (by omega)]
  · cases r0
def LOp.opds : LOp → List Opd
  | .p q => q.opds
  | .m q => q.opds
  | .call f l | .defer f l => f :: l
  | .panic x | .fl _ x => [x]
def tmOf : Opd → List Nat
  | .t n => [n]
  | .c _ => []
def LOper.tms (o : LOper) : List Nat := (o.op.opds.flatMap tmOf) ++ (match o.guard with | some (some t, _) => [t] | _ => [])
def LOper.cls (o : LOper) : Nat :=
  match o.op with
  | .p _ | .fl _ _ => 0
  | .m q => q.cls
  | .call _ _ => 4
  | _ => 5
def unseen (o : LOper) : Option Nat → Bool
  | none => true
  | some d => !o.tms.contains d
def dstNe : Option Nat → Option Nat → Bool
  | some a, some b => a != b
  | _, _ => true
/-- A load whose address lies in a temporary. -/
def LOper.ldT (o : LOper) : Option Nat :=
  match o.op with
  | .m (.load (.t n)) => some n
  | .m (.loadn _ (.t n)) => some n
  | _ => none
/-- x, which comes first, and y may be exchanged. -/
def indep (x y : LOper) : Bool :=
  unseen y x.dst && unseen x y.dst && dstNe x.dst y.dst && decide (x.cls ≤ 4) && decide (y.cls ≤ 4) &&
  (x.cls == 0 || (y.cls == 0 && decide (x.cls ≤ 3)) || (x.cls == 1 && y.cls == 1) || (y.cls == 3 && decide (1 ≤ x.cls)) || (x.cls == 3 && y.ldT.isSome))
def flv (S : Stab) (r : Nat → AV) (n : Option Nat) (x : Opd) : Option AV :=
  match x.ev r with
  | .ptr b o => match n with
    | none => lookS S b o
    | some n => if n = 0 then none else (lookSn S b o n).map .agg
  | _ => none
def detv (S : Stab) (id : Nat) (o : LOper) (r : Nat → AV) (M : Mem) : Option (AV × Mem) :=
  match wantedA r o.guard with
  | none => none
  | some false => some (.tup [], M)
  | some true => match o.op with
    | .p q => (pop (fun x => x.ev r) q).map fun v => (v, M)
    | .fl n x => (flv S r n x).map fun v => (v, M)
    | .m q => mop id (fun x => x.ev r) M q
    | _ => none
/-- R i: the cells that a free load i reads; S i: the cells that an operation i must leave as they are. -/
def aopD1 (P : Program) (R S : Nat → Stab) (ν : Nat → Nat) (Qp : AV → St → Prop) (i : Nat) (o : LOper) (K : St → Prop) (s : St) : Prop :=
  if o.cls ≤ 3 then match detv (R i) (ν i) o s.regs s.mem with
    | some (v, M') => (o.cls = 2 → Holds (S i) M') ∧ K (St.put { s with mem := M' } o.dst v)
    | none => False
  else if o.cls = 4 then aop1 P (ν i) Qp 0 o (fun s' => Holds (S i) s'.mem ∧ K s') s
  else False
def aopsD (P : Program) (R S : Nat → Stab) (ν : Nat → Nat) (Qp : AV → St → Prop) : List (Nat × LOper) → (St → Prop) → St → Prop
  | [], K, s => K s
  | (i, o) :: rest, K, s => aopD1 P R S ν Qp i o (aopsD P R S ν Qp rest K) s
/-! ### Exchanging -/
theorem put_comm (s : St) {a b : Option Nat} (h : dstNe a b = true) (u v : AV) : (s.put a u).put b v = (s.put b v).put a u := by
  cases a <;> cases b <;> try rfl
  rename_i a b
  simp only [dstNe, bne_iff_ne, ne_eq] at h
  simp only [St.put]
  congr 1
  funext t
  by_cases e : t = b
  · subst e; simp [Ne.symm h]
  · simp [e]
theorem put_mem (s : St) (d : Option Nat) (v : AV) : (s.put d v).mem = s.mem := by cases d <;> rfl
theorem put_dfr (s : St) (d : Option Nat) (v : AV) : (s.put d v).dfr = s.dfr := by cases d <;> rfl
theorem put_setmem (s : St) (d : Option Nat) (v : AV) (M : Mem) : ({ (s.put d v) with mem := M } : St) = St.put { s with mem := M } d v := by cases d <;> rfl
theorem ev_put {o : LOper} {s : St} {d : Option Nat} {v : AV} (h : unseen o d = true) : ∀ x ∈ o.op.opds, x.ev (s.put d v).regs = x.ev s.regs := by
  intro x hx
  cases d with
  | none => rfl
  | some d =>
    cases x with
    | c v => rfl
    | t n =>
      have hne : n ≠ d := by
        rintro rfl
        simp only [unseen, Bool.not_eq_true', List.contains_eq_mem, decide_eq_false_iff_not] at h
        exact h (by simp only [LOper.tms, List.mem_append, List.mem_flatMap]; exact .inl ⟨.t n, hx, by simp [tmOf]⟩)
      simp [Opd.ev, St.put, hne]
theorem wanted_put {o : LOper} {s : St} {d : Option Nat} {v : AV} (h : unseen o d = true) : wantedA (s.put d v).regs o.guard = wantedA s.regs o.guard := by
  cases d with
  | none => rfl
  | some d =>
    cases hg : o.guard with
    | none => rfl
    | some g =>
      obtain ⟨t, want⟩ := g
      cases t with
      | none => rfl
      | some t =>
        have hne : t ≠ d := by
          rintro rfl
          simp only [unseen, Bool.not_eq_true', List.contains_eq_mem, decide_eq_false_iff_not] at h
          exact h (by simp [LOper.tms, hg])
        simp [wantedA, St.put, hne]
end Go.A
end
