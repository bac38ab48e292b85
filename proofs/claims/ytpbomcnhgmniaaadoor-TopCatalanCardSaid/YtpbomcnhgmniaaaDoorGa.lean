/- The abstract machine: values, memory, operations. -/
import Derived.RangeFuncIn
import Derived.DefersIn
import Derived.RecoverIn
import Derived.OrdersIn
import Derived.Below
import Derived.Laws.StructEq
section
namespace Go.A
/-- Abstract values: a block is named by a number of the abstract memory. -/
inductive AV where
  | junk
  | bool (b : Bool)
  | int (k : IntKind) (n : Int)
  | str (s : List UInt8)
  | nilPtr
  | ptr (b o : Nat)
  | nilSlc
  | slc (b o len : Nat) (cap : Option Nat) (es : Nat)
  | nilMap
  | map (r : Nat)
  | fn (f : Fn) (first captured : List AV)
  | yld (l : Nat)
  | nilFn
  | ifc (t : TypeId) (v : AV)
  | nilIfc
  | agg (l : List AV)
  | tup (l : List AV)
  deriving Inhabited
/-- Where an abstract block lies: the model's block, the offset of its first cell there, and the number of cells of the model's block. -/
structure K where
  blk : Nat
  off : Nat
  size : Nat
abbrev Kap := Nat → Option K
def Kap.le (κ κ' : Kap) : Prop := ∀ B k, κ B = some k → κ' B = some k
theorem Kap.le_refl (κ : Kap) : κ.le κ := fun _ _ h => h
theorem Kap.le_trans {a b c : Kap} (h : a.le b) (h' : b.le c) : a.le c := fun B k hk => h' B k (h B k hk)
mutual
inductive VR (κ : Kap) : AV → Value → Prop
  | junk (V : Value) : VR κ .junk V
  | bool (b : Bool) : VR κ (.bool b) (.bool b)
  | int (k : IntKind) (n : Int) : VR κ (.int k n) (.int k n)
  | str (l : List UInt8) (s : ByteArray) (h : s.data.toList = l) : VR κ (.str l) (.string s)
  | nilPtr : VR κ .nilPtr (.pointer none)
  | ptr (B o : Nat) (k : K) (h : κ B = some k) : VR κ (.ptr B o) (.pointer (some ⟨k.blk, k.off + o, none⟩))
  | nilSlc : VR κ .nilSlc (.slice none 0 0)
  | slc (B o n : Nat) (c : Option Nat) (es : Nat) (k : K) (cap : Nat) (h : κ B = some k) (hn : n ≤ cap) (hs : k.off + o + cap * es ≤ k.size) (hc : ∀ x, c = some x → cap = x) (he : c = none → k.off + o + cap * es = k.size) :
      VR κ (.slc B o n c es) (.slice (some ⟨k.blk, k.off + o, none⟩) n cap)
  | slcE (B o : Nat) (c : Option Nat) (es : Nat) (a : Addr) (hc : ∀ x, c = some x → x = 0) (he : c = none → ∃ k, κ B = some k ∧ k.off + o = k.size) : VR κ (.slc B o 0 c es) (.slice (some a) 0 0)
  | nilMap : VR κ .nilMap (.map none)
  | map (r : Nat) (k : K) (h : κ r = some k) : VR κ (.map r) (.map (some k.blk))
  | fn (f : Fn) (l c : List AV) (L C : Array Value) (hl : VRs κ l L.toList) (hc : VRs κ c C.toList) : VR κ (.fn f l c) (.func f L C)
  | yld (r : Nat) (k : K) (h : κ r = some k) : VR κ (.yld r) (.func (.yield k.blk) #[] #[])
  | nilFn : VR κ .nilFn .nilFunc
  | ifc (t : TypeId) (v : AV) (V : Value) (h : VR κ v V) : VR κ (.ifc t v) (.iface t V)
  | nilIfc : VR κ .nilIfc .nilIface
  | agg (l : List AV) (L : Array Value) (h : VRs κ l L.toList) : VR κ (.agg l) (.agg L)
  | tup (l : List AV) (L : Array Value) (h : VRs κ l L.toList) : VR κ (.tup l) (.tuple L)
inductive VRs (κ : Kap) : List AV → List Value → Prop
  | nil : VRs κ [] []
  | cons (v : AV) (V : Value) (l : List AV) (L : List Value) (h : VR κ v V) (hs : VRs κ l L) : VRs κ (v :: l) (V :: L)
end
mutual
theorem VR.mono {κ κ' : Kap} (hk : κ.le κ') : ∀ {v : AV} {V : Value}, VR κ v V → VR κ' v V
  | _, _, .junk V => .junk V
  | _, _, .bool b => .bool b
  | _, _, .int k n => .int k n
  | _, _, .str l s h => .str l s h
  | _, _, .nilPtr => .nilPtr
  | _, _, .ptr B o k h => .ptr B o k (hk _ _ h)
  | _, _, .nilSlc => .nilSlc
  | _, _, .slc B o n c es k cap h hn hs hc he => .slc B o n c es k cap (hk _ _ h) hn hs hc he
  | _, _, .slcE B o c es a hc he => .slcE B o c es a hc (fun hn => let ⟨k, h1, h2⟩ := he hn; ⟨k, hk _ _ h1, h2⟩)
  | _, _, .nilMap => .nilMap
  | _, _, .map r k h => .map r k (hk _ _ h)
  | _, _, .fn f l c L C hl hc => .fn f l c L C (hl.mono hk) (hc.mono hk)
  | _, _, .yld r k h => .yld r k (hk _ _ h)
  | _, _, .nilFn => .nilFn
  | _, _, .ifc t v V h => .ifc t v V (h.mono hk)
  | _, _, .nilIfc => .nilIfc
  | _, _, .agg l L h => .agg l L (h.mono hk)
  | _, _, .tup l L h => .tup l L (h.mono hk)
theorem VRs.mono {κ κ' : Kap} (hk : κ.le κ') : ∀ {l : List AV} {L : List Value}, VRs κ l L → VRs κ' l L
  | _, _, .nil => .nil
  | _, _, .cons v V l L h hs => .cons v V l L (h.mono hk) (hs.mono hk)
end
theorem VRs.length {κ : Kap} : ∀ {l : List AV} {L : List Value}, VRs κ l L → l.length = L.length
  | _, _, .nil => rfl
  | _, _, .cons _ _ _ _ _ hs => by simp [hs.length]
theorem VRs.get {κ : Kap} : ∀ {l : List AV} {L : List Value}, VRs κ l L → ∀ {i : Nat} {v : AV}, l[i]? = some v → ∃ V, L[i]? = some V ∧ VR κ v V
  | _, _, .nil, i, v, h => by simp at h
  | _, _, .cons v V l L h hs, 0, u, hu => by simp at hu; subst hu; exact ⟨V, by simp, h⟩
  | _, _, .cons v V l L h hs, i + 1, u, hu => by
      simp at hu
      obtain ⟨W, hW, hr⟩ := hs.get hu
      exact ⟨W, by simpa using hW, hr⟩
theorem VRs.get' {κ : Kap} : ∀ {l : List AV} {L : List Value}, VRs κ l L → ∀ {i : Nat} {V : Value}, L[i]? = some V → ∃ v, l[i]? = some v ∧ VR κ v V
  | _, _, .nil, i, v, h => by simp at h
  | _, _, .cons v V l L h hs, 0, u, hu => by simp at hu; subst hu; exact ⟨v, by simp, h⟩
  | _, _, .cons v V l L h hs, i + 1, u, hu => by
      simp at hu
      obtain ⟨W, hW, hr⟩ := hs.get' hu
      exact ⟨W, by simpa using hW, hr⟩
theorem VRs.append {κ : Kap} : ∀ {l m : List AV} {L M : List Value}, VRs κ l L → VRs κ m M → VRs κ (l ++ m) (L ++ M)
  | _, _, _, _, .nil, h => h
  | _, _, _, _, .cons v V l L h hs, h' => .cons v V _ _ h (hs.append h')
theorem VRs.of_get {κ : Kap} : ∀ {l : List AV} {L : List Value}, l.length = L.length → (∀ (i : Nat) (v : AV) (V : Value), l[i]? = some v → L[i]? = some V → VR κ v V) → VRs κ l L
  | [], [], _, _ => .nil
  | v :: l, V :: L, h, hg => .cons v V l L (hg 0 v V (by simp) (by simp)) (VRs.of_get (by simpa using h) (fun i u U hu hU => hg (i + 1) u U (by simpa using hu) (by simpa using hU)))
  | [], _ :: _, h, _ => by simp at h
  | _ :: _, [], h, _ => by simp at h
theorem VRs.take {κ : Kap} : ∀ {l : List AV} {L : List Value}, VRs κ l L → ∀ n : Nat, VRs κ (l.take n) (L.take n)
  | _, _, .nil, n => by simp; exact .nil
  | _, _, .cons v V l L h hs, 0 => by simp; exact .nil
  | _, _, .cons v V l L h hs, n + 1 => by simp; exact .cons _ _ _ _ h (hs.take n)
theorem VRs.drop {κ : Kap} : ∀ {l : List AV} {L : List Value}, VRs κ l L → ∀ n : Nat, VRs κ (l.drop n) (L.drop n)
  | _, _, .nil, n => by simp; exact .nil
  | _, _, .cons v V l L h hs, 0 => by simpa using .cons _ _ _ _ h hs
  | _, _, .cons v V l L h hs, n + 1 => by simpa using hs.drop n
theorem VRs.set {κ : Kap} {u : AV} {U : Value} (hu : VR κ u U) : ∀ {l : List AV} {L : List Value}, VRs κ l L → ∀ i : Nat, VRs κ (l.set i u) (L.set i U)
  | _, _, .nil, n => by simp; exact .nil
  | _, _, .cons v V l L h hs, 0 => by simp; exact .cons _ _ _ _ hu hs
  | _, _, .cons v V l L h hs, n + 1 => by simp; exact .cons _ _ _ _ h (hs.set hu n)
theorem VRs.map {κ : Kap} {α : Type} {f : α → AV} {g : α → Value} : ∀ (l : List α), (∀ x ∈ l, VR κ (f x) (g x)) → VRs κ (l.map f) (l.map g)
  | [], _ => .nil
  | a :: l, h => .cons _ _ _ _ (h a (by simp)) (VRs.map l (fun x hx => h x (by simp [hx])))
theorem VRs.replicate {κ : Kap} {u : AV} {U : Value} (hu : VR κ u U) : ∀ n : Nat, VRs κ (List.replicate n u) (List.replicate n U)
  | 0 => .nil
  | n + 1 => .cons _ _ _ _ hu (VRs.replicate hu n)
/-- The record of a range over a function. -/
structure ALoop where
  state : LoopState
  pending : Option Code
  fn : FuncId
  size : Nat
  regs : Nat → AV
  params : Array Tmp
  assign : Code
  body : Code
inductive AObj where
  | cells (cs : List AV) (wr : Bool)
  | mp (es : List (AV × AV × Nat)) (clock : Nat)
  | siter (s : List UInt8) (pos : Nat)
  | lp (l : ALoop)
def AObj.wr : AObj → Bool
  | .cells _ wr => wr
  | _ => true
structure Mem where
  get : Nat → Option AObj
  next : Nat
def Mem.set (M : Mem) (B : Nat) (o : AObj) : Mem := { M with get := fun b => if b = B then some o else M.get b }
def Mem.del (M : Mem) (B : Nat) : Mem := { M with get := fun b => if b = B then none else M.get b }
def Mem.empty : Mem := { get := fun _ => none, next := 0 }
@[simp] theorem Mem.set_next (M : Mem) (B : Nat) (o : AObj) : (M.set B o).next = M.next := rfl
@[simp] theorem Mem.del_next (M : Mem) (B : Nat) : (M.del B).next = M.next := rfl
theorem Mem.set_get (M : Mem) (B : Nat) (o : AObj) (b : Nat) : (M.set B o).get b = if b = B then some o else M.get b := rfl
theorem Mem.del_get (M : Mem) (B : Nat) (b : Nat) : (M.del B).get b = if b = B then none else M.get b := rfl
@[simp] theorem Mem.set_same (M : Mem) (B : Nat) (o : AObj) : (M.set B o).get B = some o := by simp [Mem.set_get]
theorem Mem.set_ne (M : Mem) {B b : Nat} (o : AObj) (h : b ≠ B) : (M.set B o).get b = M.get b := by simp [Mem.set_get, h]
abbrev Ent := AV × AV × Nat
inductive EntR (κ : Kap) : Ent → MapEntry → Prop
  | mk (a v : AV) (A V : Value) (n : Nat) (ha : VR κ a A) (hv : VR κ v V) : EntR κ (a, v, n) ⟨A, V, n⟩
theorem EntR.mono {κ κ' : Kap} (hk : κ.le κ') {e : Ent} {E : MapEntry} (h : EntR κ e E) : EntR κ' e E := by
  cases h with | mk a v A V n ha hv => exact .mk a v A V n (ha.mono hk) (hv.mono hk)
inductive L2 {α β : Type} (R : α → β → Prop) : List α → List β → Prop
  | nil : L2 R [] []
  | cons {a : α} {b : β} {l : List α} {m : List β} (h : R a b) (hs : L2 R l m) : L2 R (a :: l) (b :: m)
theorem L2.mono {α β : Type} {R S : α → β → Prop} (h : ∀ a b, R a b → S a b) : ∀ {l : List α} {m : List β}, L2 R l m → L2 S l m
  | _, _, .nil => .nil
  | _, _, .cons x xs => .cons (h _ _ x) (xs.mono h)
def ObjR (κ : Kap) (w : World) (k : K) : AObj → Prop
  | .cells cs wr => ∃ (C : Array Value) (e : TypeId) (fz : Nat × Nat), w.heap[k.blk]? = some (.cells C e fz) ∧ C.size = k.size ∧ k.off + cs.length ≤ C.size ∧
      (∀ (i : Nat) (v : AV), cs[i]? = some v → ∃ V, C[k.off + i]? = some V ∧ VR κ v V) ∧ (wr = true → ∀ i, i < C.size → ¬ (fz.1 ≤ i ∧ i < fz.2))
  | .mp es clock => ∃ Es : Array MapEntry, w.heap[k.blk]? = some (.map Es clock) ∧ L2 (EntR κ) es Es.toList
  | .siter s pos => ∃ S : ByteArray, w.heap[k.blk]? = some (.stringIter S pos) ∧ S.data.toList = s ∧ k.off = 0
  | .lp R => ∃ (T : Array Value) (D : Nat), w.heap[k.blk]? = some (.loop { state := R.state, pending := R.pending, fn := R.fn, tmps := T, params := R.params, assign := R.assign, body := R.body, defers := D }) ∧
      T.size = R.size ∧ (∀ i, VR κ (R.regs i) (T.getD i undef))
theorem ObjR.mono {κ κ' : Kap} (hk : κ.le κ') {w : World} {k : K} {o : AObj} (h : ObjR κ w k o) : ObjR κ' w k o := by
  cases o with
  | cells cs wr =>
    obtain ⟨C, e, fz, h1, h2, h3, h4, h5⟩ := h
    exact ⟨C, e, fz, h1, h2, h3, fun i v hv => let ⟨V, hV, hr⟩ := h4 i v hv; ⟨V, hV, hr.mono hk⟩, h5⟩
  | mp es c => obtain ⟨Es, h1, h2⟩ := h; exact ⟨Es, h1, h2.mono fun _ _ => EntR.mono hk⟩
  | siter s p => exact h
  | lp R => obtain ⟨T, D, h1, h2, h3⟩ := h; exact ⟨T, D, h1, h2, fun i => (h3 i).mono hk⟩
theorem ObjR.heap {κ : Kap} {w w' : World} {k : K} {o : AObj} (hw : w'.heap[k.blk]? = w.heap[k.blk]?) (h : ObjR κ w k o) : ObjR κ w' k o := by
  cases o <;> simpa only [ObjR, hw] using h
/-- The abstract memory M stands for a part of the world w. -/
structure Rel (κ : Kap) (M : Mem) (w : World) : Prop where
  obj : ∀ B o, M.get B = some o → ∃ k, κ B = some k ∧ ObjR κ w k o
  sep : ∀ B B' o o' k k', M.get B = some o → o.wr = true → M.get B' = some o' → κ B = some k → κ B' = some k' → k.blk = k'.blk → B = B'
  fresh : ∀ B, M.next ≤ B → κ B = none
  inb : ∀ B k, κ B = some k → k.blk < w.heap.size
theorem Rel.lt {κ : Kap} {M : Mem} {w : World} (h : Rel κ M w) {B : Nat} {o : AObj} (hB : M.get B = some o) : B < M.next := by
  obtain ⟨k, hk, _⟩ := h.obj B o hB
  exact Nat.lt_of_not_le fun hle => by rw [h.fresh B hle] at hk; cases hk
/-- What a piece of the run may do to the world: it turns blocks that the abstract memory holds as its own, and adds blocks. -/
structure Fr (κ : Kap) (M : Mem) (w w' : World) : Prop where
  os : w'.os = w.os
  tape : w'.tape = w.tape
  output : w'.output = w.output
  size : w.heap.size ≤ w'.heap.size
  block : ∀ c, c < w.heap.size → (∀ B o k, M.get B = some o → o.wr = true → κ B = some k → k.blk ≠ c) → w'.heap[c]? = w.heap[c]?
theorem Fr.refl (κ : Kap) (M : Mem) (w : World) : Fr κ M w w := ⟨rfl, rfl, rfl, Nat.le_refl _, fun _ _ _ => rfl⟩
/-- What the abstract memory owns later is what it owned, or new. -/
structure Own (κ : Kap) (M : Mem) (w : World) (κ' : Kap) (M' : Mem) : Prop where
  le : κ.le κ'
  next : M.next ≤ M'.next
  own : ∀ B o k, M'.get B = some o → κ' B = some k → k.blk < w.heap.size → ∃ B₀ o₀ k₀, M.get B₀ = some o₀ ∧ (o.wr = true → o₀.wr = true) ∧ κ B₀ = some k₀ ∧ k₀.blk = k.blk
theorem Own.refl (κ : Kap) (M : Mem) (w : World) : Own κ M w κ M := ⟨κ.le_refl, Nat.le_refl _, fun B o k h1 h2 _ => ⟨B, o, k, h1, fun h => h, h2, rfl⟩⟩
theorem Own.trans {κ κ₁ κ₂ : Kap} {M M₁ M₂ : Mem} {w w₁ : World} (h : Own κ M w κ₁ M₁) (h' : Own κ₁ M₁ w₁ κ₂ M₂) (hw : w.heap.size ≤ w₁.heap.size) : Own κ M w κ₂ M₂ :=
  ⟨Kap.le_trans h.le h'.le, Nat.le_trans h.next h'.next, fun B o k h1 h2 h3 => by
      obtain ⟨B₁, o₁, k₁, a1, a2, a3, a4⟩ := h'.own B o k h1 h2 (by omega)
      obtain ⟨B₀, o₀, k₀, b1, b2, b3, b4⟩ := h.own B₁ o₁ k₁ a1 a3 (by omega)
      exact ⟨B₀, o₀, k₀, b1, fun h => b2 (a2 h), b3, by omega⟩⟩
theorem Fr.trans {κ κ₁ : Kap} {M M₁ : Mem} {w w₁ w₂ : World} (h : Fr κ M w w₁) (ho : Own κ M w κ₁ M₁) (h' : Fr κ₁ M₁ w₁ w₂) : Fr κ M w w₂ :=
  ⟨h'.os.trans h.os, h'.tape.trans h.tape, h'.output.trans h.output, Nat.le_trans h.size h'.size, fun c hc hn => by
    rw [h'.block c (Nat.lt_of_lt_of_le hc h.size) ?_]
    · exact h.block c hc hn
    · intro B o k h1 h2 h3 hk
      obtain ⟨B₀, o₀, k₀, b1, b2, b3, b4⟩ := ho.own B o k h1 h3 (by omega)
      exact hn B₀ o₀ k₀ b1 (b2 h2) b3 (by omega)⟩
end Go.A
end
section
namespace Go.A
def Kap.put (κ : Kap) (B : Nat) (k : K) : Kap := fun b => if b = B then some k else κ b
theorem Kap.le_put {κ : Kap} {B : Nat} (h : κ B = none) (k : K) : κ.le (κ.put B k) := by
  intro b x hx
  have : b ≠ B := by rintro rfl; rw [h] at hx; cases hx
  simp [Kap.put, this, hx]
@[simp] theorem Kap.put_same (κ : Kap) (B : Nat) (k : K) : κ.put B k B = some k := by simp [Kap.put]
theorem Kap.put_ne (κ : Kap) {B b : Nat} (k : K) (h : b ≠ B) : κ.put B k b = κ b := by simp [Kap.put, h]
/-- The state of the world and the abstract memory moved on together. -/
structure Step (κ : Kap) (M : Mem) (w : World) (κ' : Kap) (M' : Mem) (w' : World) : Prop where
  rel : Rel κ' M' w'
  own : Own κ M w κ' M'
  fr : Fr κ M w w'
theorem Step.refl {κ : Kap} {M : Mem} {w : World} (h : Rel κ M w) : Step κ M w κ M w := ⟨h, Own.refl _ _ _, Fr.refl _ _ _⟩
theorem Step.trans {κ κ₁ κ₂ : Kap} {M M₁ M₂ : Mem} {w w₁ w₂ : World} (h : Step κ M w κ₁ M₁ w₁) (h' : Step κ₁ M₁ w₁ κ₂ M₂ w₂) : Step κ M w κ₂ M₂ w₂ :=
  ⟨h'.rel, h.own.trans h'.own h.fr.size, h.fr.trans h.own h'.fr⟩
/-- A new block. -/
theorem Rel.new {κ : Kap} {M : Mem} {w : World} (h : Rel κ M w) {id : Nat} (hid : id < M.next) (hk : κ id = none) (o : AObj) (O : Obj) (sz : Nat)
    (hO : ∀ κ' : Kap, κ.le κ' → ObjR κ' (w.alloc O) ⟨w.heap.size, 0, sz⟩ o) :
    Step κ M w (κ.put id ⟨w.heap.size, 0, sz⟩) (M.set id o) (w.alloc O) := by
  have hle : κ.le (κ.put id ⟨w.heap.size, 0, sz⟩) := Kap.le_put hk _
  have hheap : ∀ c, c < w.heap.size → (w.alloc O).heap[c]? = w.heap[c]? := fun c hc => RowKit.Below.heap_alloc w O c hc
  refine ⟨⟨?_, ?_, ?_, ?_⟩, ⟨hle, Nat.le_refl _, ?_⟩, ⟨rfl, rfl, rfl, by simp, fun c hc _ => hheap c hc⟩⟩
  · intro B o' hB
    rw [Mem.set_get] at hB
    by_cases e : B = id
    · subst e; simp at hB; subst hB; exact ⟨_, by simp, hO _ hle⟩
    · rw [if_neg e] at hB
      obtain ⟨k, hk', ho⟩ := h.obj B o' hB
      exact ⟨k, hle _ _ hk', (ho.heap (hheap _ (h.inb _ _ hk'))).mono hle⟩
  · intro B B' o₁ o₂ k k' h1 h2 h3 h4 h5 h6
    rw [Mem.set_get] at h1 h3
    by_cases e : B = id
    · by_cases e' : B' = id
      · rw [e, e']
      · exfalso
        rw [if_neg e'] at h3
        subst e; simp at h4; subst h4
        rw [Kap.put_ne _ _ e'] at h5
        have := h.inb _ _ h5
        simp at h6; omega
    · rw [if_neg e] at h1
      rw [Kap.put_ne _ _ e] at h4
      by_cases e' : B' = id
      · exfalso
        subst e'; simp at h5; subst h5
        have := h.inb _ _ h4
        simp at h6; omega
      · rw [if_neg e'] at h3
        rw [Kap.put_ne _ _ e'] at h5
        exact h.sep B B' o₁ o₂ k k' h1 h2 h3 h4 h5 h6
  · intro B hB
    have : B ≠ id := by simp at hB; omega
    rw [Kap.put_ne _ _ this]; exact h.fresh B hB
  · intro B k hB
    by_cases e : B = id
    · subst e; simp at hB; subst hB; simp
    · rw [Kap.put_ne _ _ e] at hB
      have := h.inb _ _ hB
      simp; omega
  · intro B o' k h1 h3 h4
    rw [Mem.set_get] at h1
    by_cases e : B = id
    · subst e; simp at h3; subst h3; simp at h4
    · rw [if_neg e] at h1; rw [Kap.put_ne _ _ e] at h3
      exact ⟨B, o', k, h1, fun h => h, h3, rfl⟩

/-- An object of the abstract memory's own is turned in place. -/
theorem Rel.turn {κ : Kap} {M : Mem} {w w' : World} (h : Rel κ M w) {B : Nat} {o o' : AObj} {k : K} (hB : M.get B = some o) (hw : o.wr = true) (hk : κ B = some k)
    (hO : ObjR κ w' k o') (hos : w'.os = w.os) (htape : w'.tape = w.tape) (hout : w'.output = w.output) (hsz : w'.heap.size = w.heap.size)
    (hother : ∀ c, c ≠ k.blk → w'.heap[c]? = w.heap[c]?) : Step κ M w κ (M.set B o') w' := by
  refine ⟨⟨?_, ?_, fun b hb => h.fresh b hb, fun b x hb => by rw [hsz]; exact h.inb b x hb⟩, ⟨κ.le_refl, Nat.le_refl _, ?_⟩, ⟨hos, htape, hout, by omega, fun c _ hc => hother c (fun e => hc B o k hB hw hk e.symm)⟩⟩
  · intro b x hb
    rw [Mem.set_get] at hb
    by_cases e : b = B
    · subst e; simp at hb; subst hb; exact ⟨k, hk, hO⟩
    · rw [if_neg e] at hb
      obtain ⟨kb, hkb, ho⟩ := h.obj b x hb
      exact ⟨kb, hkb, ho.heap (hother _ fun e' => e (h.sep B b o x k kb hB hw hb hk hkb e'.symm).symm)⟩
  · intro b b' x x' kb kb' h1 h2 h3 h4 h5 h6
    rw [Mem.set_get] at h1 h3
    by_cases e : b = B
    · subst e
      by_cases e' : b' = b
      · exact e'.symm
      · rw [if_neg e'] at h3
        exact h.sep b b' o x' kb kb' hB hw h3 h4 h5 h6
    · rw [if_neg e] at h1
      by_cases e' : b' = B
      · subst e'
        exact h.sep b b' x o kb kb' h1 h2 hB h4 h5 h6
      · rw [if_neg e'] at h3
        exact h.sep b b' x x' kb kb' h1 h2 h3 h4 h5 h6
  · intro b x kb h1 h3 _
    rw [Mem.set_get] at h1
    by_cases e : b = B
    · subst e; exact ⟨b, o, k, hB, fun _ => hw, hk, by rw [hk] at h3; cases h3; rfl⟩
    · rw [if_neg e] at h1; exact ⟨b, x, kb, h1, fun h => h, h3, rfl⟩
/-- Forgetting a block. -/
theorem Rel.forget {κ : Kap} {M : Mem} {w : World} (h : Rel κ M w) (B : Nat) : Step κ M w κ (M.del B) w := by
  refine ⟨⟨?_, ?_, fun b hb => h.fresh b hb, h.inb⟩, ⟨κ.le_refl, Nat.le_refl _, ?_⟩, Fr.refl _ _ _⟩
  · intro b x hb
    rw [Mem.del_get] at hb
    split at hb
    · cases hb
    · exact h.obj b x hb
  · intro b b' x x' kb kb' h1 h2 h3
    rw [Mem.del_get] at h1 h3
    split at h1 <;> split at h3 <;> first | cases h1; done | cases h3; done | exact h.sep b b' x x' kb kb' h1 h2 h3
  · intro b x kb h1 h3 _
    rw [Mem.del_get] at h1
    split at h1
    · cases h1
    · exact ⟨b, x, kb, h1, fun h => h, h3, rfl⟩
theorem Rel.drew {κ : Kap} {M : Mem} {w : World} (h : Rel κ M w) : Step κ M w κ M w.drew :=
  ⟨⟨fun B o hB => let ⟨k, hk, ho⟩ := h.obj B o hB; ⟨k, hk, ho.heap rfl⟩, h.sep, h.fresh, h.inb⟩, Own.refl _ _ _, ⟨rfl, rfl, rfl, Nat.le_refl _, fun _ _ _ => rfl⟩⟩
/-- Later numbers may be kept free. -/
theorem Rel.bump {κ : Kap} {M : Mem} {w : World} (h : Rel κ M w) (n : Nat) : Step κ M w κ { M with next := M.next + n } w :=
  ⟨⟨h.obj, h.sep, fun B hB => h.fresh B (by simp at hB; omega), h.inb⟩, ⟨κ.le_refl, by simp, fun B o k a c _ => ⟨B, o, k, a, fun h => h, c, rfl⟩⟩, Fr.refl _ _ _⟩
/-! ### Cells -/
def Mem.rd (M : Mem) (B o : Nat) : Option AV :=
  match M.get B with
  | some (.cells cs _) => cs[o]?
  | _ => none
def Mem.rdn (M : Mem) (B o n : Nat) : Option (List AV) :=
  match M.get B with
  | some (.cells cs _) => if o + n ≤ cs.length then some ((cs.drop o).take n) else none
  | _ => none
/-- Writing cells (each a one-cell value). -/
def Mem.wrs (M : Mem) (B o : Nat) (vs : List AV) : Option Mem :=
  match M.get B with
  | some (.cells cs true) => if o + vs.length ≤ cs.length then some (M.set B (.cells (cs.take o ++ vs ++ cs.drop (o + vs.length)) true)) else none
  | _ => none
theorem cell_of {κ : Kap} {w : World} {k : K} {cs : List AV} {wr : Bool} (h : ObjR κ w k (.cells cs wr)) {o : Nat} {v : AV} (hv : cs[o]? = some v) :
    ∃ V, w.cell? ⟨k.blk, k.off + o, none⟩ = some V ∧ VR κ v V := by
  obtain ⟨C, e, fz, h1, h2, h3, h4, h5⟩ := h
  obtain ⟨V, hV, hr⟩ := h4 o v hv
  exact ⟨V, by simp [World.cell?, h1, hV], hr⟩
theorem Rel.rd {κ : Kap} {M : Mem} {w : World} (h : Rel κ M w) {B o : Nat} {v : AV} (hv : M.rd B o = some v) {k : K} (hk : κ B = some k) :
    ∃ V, w.cell? ⟨k.blk, k.off + o, none⟩ = some V ∧ VR κ v V := by
  unfold Mem.rd at hv
  split at hv
  · rename_i cs wr hB
    obtain ⟨k', hk', ho⟩ := h.obj _ _ hB
    rw [hk] at hk'; cases hk'
    exact cell_of ho hv
  · cases hv
/-- One-cell values. -/
def AV.one : AV → Bool
  | .junk | .agg _ | .tup _ => false
  | _ => true
theorem VR.one {κ : Kap} {v : AV} {V : Value} (h : VR κ v V) (hv : v.one = true) : V.oneCell' = true := by
  cases h <;> first | rfl | simp [AV.one] at hv
theorem frozen_of {κ : Kap} {w : World} {k : K} {cs : List AV} (h : ObjR κ w k (.cells cs true)) {o : Nat} (ho : o < cs.length) :
    w.frozen? ⟨k.blk, k.off + o, none⟩ = false := by
  obtain ⟨C, e, fz, h1, h2, h3, h4, h5⟩ := h
  have := h5 rfl (k.off + o) (by omega)
  simp only [World.frozen?, h1]
  simpa using this
/-- One cell is written. -/
theorem Rel.wr1 {κ : Kap} {M : Mem} {w : World} (h : Rel κ M w) {B o : Nat} {cs : List AV} {k : K} (hB : M.get B = some (.cells cs true)) (hk : κ B = some k) (ho : o < cs.length)
    {v : AV} {V : Value} (hv : VR κ v V) :
    Step κ M w κ (M.set B (.cells (cs.set o v) true)) (w.setCell ⟨k.blk, k.off + o, none⟩ V) := by
  obtain ⟨k', hk', hO⟩ := h.obj _ _ hB
  rw [hk] at hk'; cases hk'
  obtain ⟨C, e, fz, h1, h2, h3, h4, h5⟩ := hO
  refine h.turn hB rfl hk ?_ rfl rfl rfl (by simp) (fun c hc => RowKit.Below.heap_setCell _ _ _ _ hc)
  refine ⟨C.setIfInBounds (k.off + o) V, e, fz, ?_, by simpa using h2, by simpa using h3, ?_, ?_⟩
  · simp [World.setCell, Array.getElem?_modify, h1]
  · intro i u hu
    rw [List.getElem?_set] at hu
    by_cases e' : o = i
    · subst e'
      simp [ho] at hu
      subst hu
      exact ⟨V, by rw [Array.getElem?_setIfInBounds]; simp; omega, hv⟩
    · rw [if_neg e'] at hu
      obtain ⟨U, hU, hr⟩ := h4 i u hu
      exact ⟨U, by rw [Array.getElem?_setIfInBounds, if_neg (by omega)]; exact hU, hr⟩
  · simpa using h5
end Go.A
end
section
namespace Go.A
inductive Opd where
  | t (n : Nat)
  | c (v : AV)
  deriving Inhabited
def Opd.ev (r : Nat → AV) : Opd → AV
  | .t n => r n
  | .c v => v
def scalarOf : Value → Option AV
  | .bool b => some (.bool b)
  | .int k n => some (.int k n)
  | .string s => some (.str s.data.toList)
  | .pointer none => some .nilPtr
  | .slice none 0 0 => some .nilSlc
  | .map none => some .nilMap
  | .nilFunc => some .nilFn
  | .nilIface => some .nilIfc
  | _ => none
def listOf : List Value → Option (List AV)
  | [] => some []
  | v :: r => match scalarOf v, listOf r with
    | some a, some l => some (a :: l)
    | _, _ => none
def constOf (V : Value) : Option AV :=
  match V with
  | .agg cs => (listOf cs.toList).map .agg
  | .iface t v => (scalarOf v).map (.ifc t)
  | v => scalarOf v
def lowOpd : Operand → Option Opd
  | .tmp n => some (.t n)
  | .const v => (constOf v).map .c
  | .func f => some (.c (.fn (.func f) [] []))
  | .global _ => none
theorem scalarOf_VR (κ : Kap) {V : Value} {v : AV} (h : scalarOf V = some v) : VR κ v V := by
  unfold scalarOf at h
  split at h <;> cases h <;> first | exact .str _ _ rfl | constructor
theorem listOf_VRs (κ : Kap) : ∀ {L : List Value} {l : List AV}, listOf L = some l → VRs κ l L
  | [], l, h => by simp [listOf] at h; subst h; exact .nil
  | V :: L, l, h => by
    simp only [listOf] at h
    split at h
    · rename_i a m ha hm
      cases h
      exact .cons _ _ _ _ (scalarOf_VR κ ha) (listOf_VRs κ hm)
    · cases h
theorem constOf_VR (κ : Kap) {V : Value} {v : AV} (h : constOf V = some v) : VR κ v V := by
  unfold constOf at h
  split at h
  · simp only [Option.map_eq_some_iff] at h
    obtain ⟨l, hl, rfl⟩ := h
    exact .agg _ _ (listOf_VRs κ hl)
  · simp only [Option.map_eq_some_iff] at h
    obtain ⟨l, hl, rfl⟩ := h
    exact .ifc _ _ _ (scalarOf_VR κ hl)
  · exact scalarOf_VR κ h
/-- The temporaries stand for each other. -/
def RR (κ : Kap) (r : Nat → AV) (T : Array Value) : Prop := ∀ i, VR κ (r i) (T.getD i undef)
theorem RR.mono {κ κ' : Kap} (hk : κ.le κ') {r : Nat → AV} {T : Array Value} (h : RR κ r T) : RR κ' r T := fun i => (h i).mono hk
theorem opd_VR {κ : Kap} {r : Nat → AV} {a : Act} (h : RR κ r a.tmps) {x : Operand} {y : Opd} (hx : lowOpd x = some y) : VR κ (y.ev r) (a.eval x) := by
  cases x <;> simp only [lowOpd, Option.some.injEq, Option.map_eq_some_iff, reduceCtorEq] at hx
  · subst hx; exact h _
  · obtain ⟨v, hv, rfl⟩ := hx; exact constOf_VR κ hv
  · subst hx; exact .fn _ _ _ _ _ .nil .nil
/-! ### The tables -/
section
variable {P : Program} {w : World}
theorem run_info {t : TypeId} {i : TypeInfo} (h : P.info? t = some i) : (typeInfo t).run P w = .ok i w := by
  simp [typeInfo, h]
theorem run_size {t : TypeId} {i : TypeInfo} (h : P.info? t = some i) : (sizeOf t).run P w = .ok i.size w := by
  simp [sizeOf, run_info h]
theorem run_zero {t : TypeId} {i : TypeInfo} {z : Value} (h : P.info? t = some i) (hz : i.zero = some z) : (zeroValue t).run P w = .ok z w := by
  simp [zeroValue, run_info h, hz]
def aggD : TypeDesc → Bool
  | .struct _ | .array _ _ => true
  | _ => false
theorem run_agg {t : TypeId} {d : TypeDesc} (h : P.underlying t = some d) : (isAgg t).run P w = .ok (aggD d) w := by
  simp only [isAgg, Sem.run_bind, run_underlying h, Result.andThen_ok]
  cases d <;> rfl
end
def szT (P : Program) (t : TypeId) : Option Nat := (P.info? t).map (·.size)
def zeroT (P : Program) (t : TypeId) : Option AV :=
  match P.info? t with
  | some i => match i.zero with
    | some z => constOf z
    | none => none
  | none => none
def aggT (P : Program) (t : TypeId) : Option Bool := (P.underlying t).map aggD
/-! ### Cells of a value -/
def AV.cells : AV → Option (List AV)
  | .agg l => some l
  | .junk | .tup _ => none
  | v => some [v]
theorem VR.cells {κ : Kap} {v : AV} {V : Value} (h : VR κ v V) {l : List AV} (hl : v.cells = some l) : VRs κ l V.cells.toList := by
  cases h <;> simp [AV.cells] at hl <;> subst hl <;> simp only [Value.cells] <;>
    first | assumption | (refine .cons _ _ _ _ ?_ .nil; first | constructor; done | (constructor <;> assumption))
/-- One part of a struct's or an array's cells. -/
def aPart (agg : Bool) (size off : Nat) (cs : List AV) : Option AV :=
  if agg then (if off + size ≤ cs.length then some (.agg ((cs.drop off).take size)) else none) else cs[off]?
theorem part_VR {κ : Kap} {P : Program} {w : World} {t : TypeId} {d : TypeDesc} {i : TypeInfo} (hu : P.underlying t = some d) (hi : P.info? t = some i)
    {l : List AV} {L : Array Value} (hl : VRs κ l L.toList) {off : Nat} {v : AV} (hv : aPart (aggD d) i.size off l = some v) :
    ∃ V, (part t L off).run P w = .ok V w ∧ VR κ v V := by
  unfold aPart at hv
  by_cases ha : aggD d = true
  · simp only [ha, if_true] at hv
    split at hv <;> cases hv
    rename_i hle
    refine ⟨.agg (L.extract off (off + i.size)), by simp [part, run_agg hu, ha, run_size hi], .agg _ _ ?_⟩
    have : (L.extract off (off + i.size)).toList = (L.toList.drop off).take i.size := by
      simp [Array.toList_extract, List.extract_eq_take_drop]
    rw [this]
    exact (hl.drop off).take _
  · have ha' : aggD d = false := by simpa using ha
    simp only [ha', Bool.false_eq_true, if_false] at hv
    obtain ⟨V, hV, hr⟩ := hl.get hv
    refine ⟨V, ?_, hr⟩
    have : L[off]? = some V := by simpa using hV
    simp [part, run_agg hu, ha', this]
end Go.A
end
section
namespace Go.A
inductive EqT where
  | bool | int | str | ptr | fnc | slcn | mapn | ifn
  | st (fs : List (Nat × Nat × Bool × EqT))
  | arr (len size : Nat) (agg : Bool) (e : EqT)
  deriving Inhabited
mutual
def aeq : EqT → AV → AV → Option Bool
  | .bool, .bool a, .bool b => some (a == b)
  | .int, .int k a, .int k' b => if k = k' then some (a == b) else none
  | .str, .str a, .str b => some (a == b)
  | .ptr, .nilPtr, .nilPtr => some true
  | .ptr, .nilPtr, .ptr _ _ => some false
  | .ptr, .ptr _ _, .nilPtr => some false
  | .ptr, .ptr b o, .ptr b' o' => if b = b' then some (o == o') else none
  | .fnc, .nilFn, .nilFn => some true
  | .fnc, .nilFn, .fn _ _ _ => some false
  | .fnc, .fn _ _ _, .nilFn => some false
  | .slcn, .nilSlc, .nilSlc => some true
  | .slcn, .nilSlc, .slc _ _ _ _ _ => some false
  | .slcn, .slc _ _ _ _ _, .nilSlc => some false
  | .mapn, .nilMap, .nilMap => some true
  | .mapn, .nilMap, .map _ => some false
  | .mapn, .map _, .nilMap => some false
  | .ifn, .nilIfc, .ifc _ _ => some false
  | .ifn, .ifc _ _, .nilIfc => some false
  | .ifn, .nilIfc, .nilIfc => some true
  | .st fs, .agg xs, .agg ys => aeqs fs xs ys
  | .arr len size agg e, .agg xs, .agg ys => aeqa len size agg e 0 xs ys
  | _, _, _ => none
def aeqs : List (Nat × Nat × Bool × EqT) → List AV → List AV → Option Bool
  | [], _, _ => some true
  | (off, size, agg, e) :: fs, xs, ys =>
    match aPart agg size off xs, aPart agg size off ys with
    | some x, some y => match aeq e x y with
      | some true => aeqs fs xs ys
      | some false => some false
      | none => none
    | _, _ => none
def aeqa : Nat → Nat → Bool → EqT → Nat → List AV → List AV → Option Bool
  | 0, _, _, _, _, _, _ => some true
  | n + 1, size, agg, e, i, xs, ys =>
    match aPart agg size (i * size) xs, aPart agg size (i * size) ys with
    | some x, some y => match aeq e x y with
      | some true => aeqa n size agg e (i + 1) xs ys
      | some false => some false
      | none => none
    | _, _ => none
end

def lowFs (P : Program) (f : TypeId → Option EqT) : List Field → Option (List (Nat × Nat × Bool × EqT))
  | [] => some []
  | x :: r =>
    if x.name = "_" then none else
    match P.underlying x.type, P.info? x.type, f x.type, lowFs P f r with
    | some d, some i, some e, some l => some ((x.offset, i.size, aggD d, e) :: l)
    | _, _, _, _ => none
/-- The comparison of a type, read off the tables. -/
def eqLow (P : Program) : Nat → TypeId → Option EqT
  | 0, _ => none
  | n + 1, t => match P.underlying t with
    | some .bool => some .bool
    | some (.int _) => some .int
    | some .string => some .str
    | some (.pointer e) => match P.info? e with
      | some i => if i.size = 0 then none else some .ptr
      | none => none
    | some (.func _ _ _) => some .fnc
    | some (.slice _) => some .slcn
    | some (.map _ _) => some .mapn
    | some (.interface _) => some .ifn
    | some (.struct fs) => if P.stoodInHeld t then none else (lowFs P (eqLow P n) fs.toList).map .st
    | some (.array len e) => match P.underlying e, P.info? e, eqLow P n e with
      | some d, some i, some x => some (.arr len i.size (aggD d) x)
      | _, _, _ => none
    | _ => none
section
variable {P : Program} {κ : Kap} {w : World}
theorem eqFields_sound {f : TypeId → Option EqT} {d : Nat}
    (ih : ∀ t x, f t = some x → ∀ {v v' : AV} {V V' : Value} {b : Bool}, VR κ v V → VR κ v' V' → aeq x v v' = some b → (Op.equalIn d t V V').run P w = .ok b w)
    {xs ys : List AV} {X Y : Array Value} (hx : VRs κ xs X.toList) (hy : VRs κ ys Y.toList) :
    ∀ (fs : List Field) (l : List (Nat × Nat × Bool × EqT)) (b : Bool), lowFs P f fs = some l → aeqs l xs ys = some b → (Op.eqFields d X Y fs).run P w = .ok b w
  | [], l, b, hl, h => by
    simp [lowFs] at hl; subst hl; simp [aeqs] at h; subst h; simp [Op.eqFields]
  | g :: fs, l, b, hl, h => by
    simp only [lowFs] at hl
    split at hl
    · cases hl
    · rename_i hname
      split at hl
      · rename_i dd i e m h1 h2 h3 h4
        cases hl
        simp only [aeqs] at h
        split at h
        · rename_i x y hxp hyp
          obtain ⟨V, hV, hVr⟩ := part_VR (w := w) h1 h2 hx hxp
          obtain ⟨V', hV', hVr'⟩ := part_VR (w := w) h1 h2 hy hyp
          have hn : g.name ≠ "_" := hname
          split at h
          · rename_i he
            have := ih _ _ h3 hVr hVr' he
            simp only [Op.eqFields, hn, ne_eq, not_false_eq_true, if_true, Sem.run_bind, hV, hV', Result.andThen_ok, this, Bool.not_true, Bool.false_eq_true, if_false]
            exact eqFields_sound ih hx hy fs m b h4 h
          · rename_i he
            cases h
            have := ih _ _ h3 hVr hVr' he
            simp only [Op.eqFields, hn, ne_eq, not_false_eq_true, if_true, Sem.run_bind, hV, hV', Result.andThen_ok, this, Bool.not_false, if_true, Sem.run_pure]
          · cases h
        · cases h
      · cases hl
/-- The comparison of an array's elements from number i on. -/
def eqElems (d : Nat) (e : TypeId) (size : Nat) (X Y : Array Value) : List Nat → Sem Bool
  | [] => pure true
  | i :: is => do
    let a ← part e X (i * size)
    let b ← part e Y (i * size)
    let r ← Op.equalIn d e a b
    if (!r) = true then pure false else eqElems d e size X Y is
theorem run_equalIn_array (d : Nat) (t e : TypeId) (n : Nat) {i : TypeInfo} (xs ys : Array Value) (ht : P.underlying t = some (.array n e)) (hi : P.info? e = some i) :
    (Op.equalIn (d + 1) t (.agg xs) (.agg ys)).run P w = (eqElems d e i.size xs ys (List.range' 0 n)).run P w := by
  simp only [Op.equalIn, Sem.run_bind, run_underlying ht, Result.andThen_ok, run_size hi]
  simp only [Std.Legacy.Range.forIn_eq_forIn_range', Std.Legacy.Range.size, Nat.sub_zero, Nat.add_sub_cancel, Nat.div_one]
  generalize List.range' 0 n = l
  clear ht
  induction l generalizing w with
  | nil => simp [eqElems]
  | cons f fs ih =>
    simp only [List.forIn_cons, eqElems, Sem.run_bind]
    generalize (part e xs (f * i.size)).run P w = r1
    cases r1 with
    | ok a w1 =>
      simp only [Result.andThen_ok]
      generalize (part e ys (f * i.size)).run P w1 = r2
      cases r2 with
      | ok b w2 =>
        simp only [Result.andThen_ok]
        generalize (Op.equalIn d e a b).run P w2 = r3
        cases r3 with
        | ok r w3 =>
          cases r
          · simp only [Result.andThen_ok, Bool.not_false, if_true, Sem.run_pure]
          · simp only [Result.andThen_ok, Bool.not_true, Bool.false_eq_true, if_false, Sem.run_pure]
            exact ih
        | halt x w3 => simp [Result.andThen]
      | halt x w2 => simp [Result.andThen]
    | halt x w1 => simp [Result.andThen]
theorem eqElems_sound {d : Nat} {e : TypeId} {x : EqT} {dd : TypeDesc} {i : TypeInfo} (hd : P.underlying e = some dd) (hi : P.info? e = some i)
    (ih : ∀ {v v' : AV} {V V' : Value} {b : Bool}, VR κ v V → VR κ v' V' → aeq x v v' = some b → (Op.equalIn d e V V').run P w = .ok b w)
    {xs ys : List AV} {X Y : Array Value} (hx : VRs κ xs X.toList) (hy : VRs κ ys Y.toList) :
    ∀ (n s : Nat) (b : Bool), aeqa n i.size (aggD dd) x s xs ys = some b → (eqElems d e i.size X Y (List.range' s n)).run P w = .ok b w
  | 0, s, b, h => by simp [aeqa] at h; subst h; simp [eqElems]
  | n + 1, s, b, h => by
    simp only [aeqa] at h
    split at h
    · rename_i u v hu hv
      obtain ⟨V, hV, hVr⟩ := part_VR (w := w) hd hi hx hu
      obtain ⟨V', hV', hVr'⟩ := part_VR (w := w) hd hi hy hv
      split at h
      · rename_i he
        have := ih hVr hVr' he
        simp only [List.range'_succ, eqElems, Sem.run_bind, hV, hV', Result.andThen_ok, this, Bool.not_true, Bool.false_eq_true, if_false]
        exact eqElems_sound hd hi ih hx hy n (s + 1) b h
      · rename_i he
        cases h
        have := ih hVr hVr' he
        simp only [List.range'_succ, eqElems, Sem.run_bind, hV, hV', Result.andThen_ok, this, Bool.not_false, if_true, Sem.run_pure]
      · cases h
    · cases h
theorem beq_off (k o o' : Nat) : (k + o == k + o') = (o == o') := by
  rw [Bool.eq_iff_iff]; simp
theorem beq_addr (b o o' : Nat) : ((⟨b, o, none⟩ : Addr) == ⟨b, o', none⟩) = (o == o') := by
  rw [Bool.eq_iff_iff]; simp
set_option maxHeartbeats 4000000 in
theorem eq_sound : ∀ (n : Nat) (t : TypeId) (x : EqT), eqLow P n t = some x → ∀ (d : Nat), n ≤ d → ∀ {v v' : AV} {V V' : Value} {b : Bool}, VR κ v V → VR κ v' V' → aeq x v v' = some b →
    (Op.equalIn d t V V').run P w = .ok b w
  | 0, t, x, h => by simp [eqLow] at h
  | n + 1, t, x, h => by
    intro d hd v v' V V' b hv hv' hb
    obtain ⟨d, rfl⟩ : ∃ e, d = e + 1 := ⟨d - 1, by omega⟩
    simp only [eqLow] at h
    split at h
    · rename_i hu; cases h
      cases hv <;> cases hv' <;> simp [aeq] at hb
      subst hb; exact run_equalIn_bool' w d t _ _ hu
    · rename_i hu; cases h
      cases hv <;> cases hv' <;> simp [aeq] at hb
      obtain ⟨rfl, rfl⟩ := hb; exact run_equalIn_int w d t _ _ _ _ hu
    · rename_i hu; cases h
      cases hv <;> cases hv' <;> simp [aeq] at hb
      rename_i l s hs l' s' hs'
      subst hb hs hs'
      rw [run_equalIn_string w d t _ _ hu]
      simp [ByteArray.toList_eq]
    · rename_i e hu
      split at h
      · rename_i i hi
        split at h
        · cases h
        · rename_i hz; cases h
          cases hv <;> cases hv' <;> simp [aeq] at hb
          all_goals try (subst hb; simp [Op.equalIn, run_underlying hu]; done)
          rename_i B o k hk B' o' k' hk'
          obtain ⟨rfl, rfl⟩ := hb
          rw [hk] at hk'; cases hk'
          have hne : (i.size ≠ 0) := hz
          simp [Op.equalIn, run_underlying hu, run_size hi, hne, sameAddr, beq_addr, beq_off]
      · cases h
    · rename_i hu; cases h
      cases hv <;> cases hv' <;> simp [aeq] at hb
      all_goals (subst hb; simp [Op.equalIn, run_underlying hu])
    · rename_i hu; cases h
      cases hv <;> cases hv' <;> simp [aeq] at hb
      all_goals (subst hb; simp [Op.equalIn, run_underlying hu])
    · rename_i hu; cases h
      cases hv <;> cases hv' <;> simp [aeq] at hb
      all_goals (subst hb; simp [Op.equalIn, run_underlying hu])
    · rename_i hu; cases h
      cases hv <;> cases hv' <;> simp [aeq] at hb
      all_goals (subst hb; simp [Op.equalIn, run_underlying hu])
    · rename_i fs hu
      split at h
      · cases h
      · rename_i hp
        simp only [Option.map_eq_some_iff] at h
        obtain ⟨l, hl, rfl⟩ := h
        cases hv <;> cases hv' <;> simp [aeq] at hb
        rename_i xs X hX ys Y hY
        have hf : P.fieldsOf t = fs := by simp [Program.fieldsOf, hu]
        rw [run_equalIn_struct w d t _ _ (by rw [hf]; exact hu) (by simpa using hp), hf]
        exact eqFields_sound (fun t x hx => eq_sound n t x hx d (by omega)) hX hY _ _ _ hl hb
    · rename_i len e hu
      split at h
      · rename_i dd i x' h1 h2 h3
        cases h
        cases hv <;> cases hv' <;> simp [aeq] at hb
        rename_i xs X hX ys Y hY
        rw [run_equalIn_array d t e len _ _ hu h2]
        exact eqElems_sound h1 h2 (eq_sound n e x' h3 d (by omega)) hX hY len 0 b hb
      · cases h
    · cases h
end
end Go.A
end
section
namespace Go.A
inductive POp where
  | mv (x : Opd)
  | pick (c a b : Opd)
  | build (zero : List AV) (parts : List (Nat × Nat × Opd))
  | ibin (op : BinOp) (x y : Opd)
  | sbin (op : BinOp) (x y : Opd)
  | eq (e : EqT) (neg : Bool) (x y : Opd)
  | un (op : UnOp) (x : Opd)
  | cint (k : IntKind) (x : Opd)
  | cid (x : Opd)
  | cis (x : Opd)
  | mki (t : TypeId) (x : Opd)
  | mkf (f : Fn) (first captured : List Opd)
  | fad (off : Nat) (x : Opd)
  | fld (off size : Nat) (agg : Bool) (x : Opd)
  | iad (es : Nat) (x i : Opd)
  | iada (n es : Nat) (x i : Opd)
  | ixs (x i : Opd)
  | ixa (n es : Nat) (agg : Bool) (x i : Opd)
  | ext (x : Opd) (i : Nat)
  | slc (es : Nat) (lo hi mx : Option Opd) (x : Opd)
  | sls (lo hi : Option Opd) (x : Opd)
  | nilck (x : Opd)
  | lens (x : Opd)
  | lenl (x : Opd)
  | lena (n : Nat)
  | mn (x y : Opd)
  | mx (x y : Opd)
  | tas (t : TypeId) (zero : AV) (x : Opd)
  deriving Inhabited
def aibin (op : BinOp) (k : IntKind) (a b : Int) : Option AV :=
  match op with
  | .add => some (.int k (k.wrap (a + b)))
  | .sub => some (.int k (k.wrap (a - b)))
  | .mul => some (.int k (k.wrap (a * b)))
  | .quo => if b = 0 then none else some (.int k (k.wrap (a.tdiv b)))
  | .rem => if b = 0 then none else some (.int k (a.tmod b))
  | .and => some (.int k (k.wrap (BitVec.ofInt k.bits a &&& BitVec.ofInt k.bits b).toNat))
  | .or => some (.int k (k.wrap (BitVec.ofInt k.bits a ||| BitVec.ofInt k.bits b).toNat))
  | .xor => some (.int k (k.wrap (BitVec.ofInt k.bits a ^^^ BitVec.ofInt k.bits b).toNat))
  | .andNot => some (.int k (k.wrap (BitVec.ofInt k.bits a &&& ~~~ BitVec.ofInt k.bits b).toNat))
  | .eql => some (.bool (a == b))
  | .neq => some (.bool (a != b))
  | .lss => some (.bool (a < b))
  | .leq => some (.bool (a ≤ b))
  | .gtr => some (.bool (a > b))
  | .geq => some (.bool (a ≥ b))
  | _ => none
def ashift (op : BinOp) (k : IntKind) (a y : Int) : Option AV :=
  if y < 0 then none else
  match op with
  | .shl => some (.int k (k.wrap (a * 2 ^ (min y.toNat k.bits))))
  | .shr => some (.int k (a.fdiv (2 ^ (min y.toNat k.bits))))
  | _ => none
def asbin (op : BinOp) (x y : List UInt8) : Option AV :=
  match op with
  | .add => if ((x.length + y.length : Nat) : Int) > IntKind.i64.max then none else some (.str (x ++ y))
  | .eql => some (.bool (x == y))
  | .neq => some (.bool (!(x == y)))
  | .lss => some (.bool (Op.bytesLess x y))
  | .leq => some (.bool (Op.bytesLess x y || x == y))
  | .gtr => some (.bool !(Op.bytesLess x y || x == y))
  | .geq => some (.bool !(Op.bytesLess x y))
  | _ => none
/-- A bound of a slice expression. -/
def abound (v : AV) (y : Nat) : Option Nat :=
  match v with
  | .int _ i => if 0 ≤ i ∧ i ≤ y then some i.toNat else none
  | _ => none
def abounds (len cap : Nat) (lo hi mx : Option AV) : Option (Nat × Nat × Option Nat) :=
  match mx with
  | none =>
    match (match hi with | some v => abound v cap | none => some len) with
    | none => none
    | some h => match (match lo with | some v => abound v h | none => some 0) with
      | none => none
      | some l => some (l, h, none)
  | some m =>
    match abound m cap, hi with
    | some m, some hv => match abound hv m with
      | none => none
      | some h => match (match lo with | some v => abound v h | none => some 0) with
        | none => none
        | some l => some (l, h, some m)
    | _, _ => none
/-- Parts are laid into cells. -/
def afill : List AV → List (Nat × Nat × AV) → Option (List AV)
  | cells, [] => some cells
  | cells, (off, size, v) :: rest =>
    match v.cells with
    | none => none
    | some l => if l.length ≠ size ∨ off + l.length > cells.length then none else afill (cells.take off ++ l ++ cells.drop (off + l.length)) rest
def pop (ρ : Opd → AV) : POp → Option AV
  | .mv x => some (ρ x)
  | .pick c a b => match ρ c with
    | .bool t => some (if t then ρ a else ρ b)
    | _ => none
  | .build zero parts => (afill zero (parts.map fun (o, s, x) => (o, s, ρ x))).map .agg
  | .ibin op x y => match ρ x, ρ y with
    | .int k a, .int k' b => match op with
      | .shl => ashift .shl k a b
      | .shr => ashift .shr k a b
      | _ => if k = k' then aibin op k a b else none
    | _, _ => none
  | .sbin op x y => match ρ x, ρ y with
    | .str a, .str b => asbin op a b
    | _, _ => none
  | .eq e neg x y => (aeq e (ρ x) (ρ y)).map fun b => .bool (b != neg)
  | .un op x => match op, ρ x with
    | .neg, .int k n => aibin .sub k 0 n
    | .xor, .int k n => aibin .xor k (if k.signed then -1 else k.max) n
    | .not, .bool b => some (.bool !b)
    | _, _ => none
  | .cint k x => match ρ x with
    | .int _ n => some (.int k (k.wrap n))
    | _ => none
  | .cid x => match ρ x with
    | .str s => some (.str s)
    | _ => none
  | .cis x => match ρ x with
    | .int _ n => some (.str (Utf8.encode n).data.toList)
    | _ => none
  | .mki t x => some (.ifc t (ρ x))
  | .mkf f first cap => some (.fn f (first.map ρ) (cap.map ρ))
  | .fad off x => match ρ x with
    | .ptr b o => some (.ptr b (o + off))
    | _ => none
  | .fld off size agg x => match ρ x with
    | .agg l => aPart agg size off l
    | _ => none
  | .iad es x i => match ρ x, ρ i with
    | .slc b o n _ _, .int _ j => if 0 ≤ j ∧ j < n then some (.ptr b (o + j.toNat * es)) else none
    | _, _ => none
  | .iada n es x i => match ρ x, ρ i with
    | .ptr b o, .int _ j => if 0 ≤ j ∧ j < n then some (.ptr b (o + j.toNat * es)) else none
    | _, _ => none
  | .ixs x i => match ρ x, ρ i with
    | .str s, .int _ j => if 0 ≤ j then match s[j.toNat]? with
        | some c => some (.int .u8 c.toNat)
        | none => none
      else none
    | _, _ => none
  | .ixa n es agg x i => match ρ x, ρ i with
    | .agg l, .int _ j => if 0 ≤ j ∧ j < n then aPart agg es (j.toNat * es) l else none
    | _, _ => none
  | .ext x i => match ρ x with
    | .tup l => l[i]?
    | _ => none
  | .slc es lo hi mx x => match ρ x with
    | .slc b o n c es' =>
      if es = es' then
        match abounds n (c.getD n) (lo.map ρ) (hi.map ρ) (mx.map ρ) with
        | some (l, h, none) => some (.slc b (o + l * es) (h - l) (c.map (· - l)) es)
        | some (l, h, some m) => some (.slc b (o + l * es) (h - l) (some (m - l)) es)
        | none => none
      else none
    | .nilSlc => match abounds 0 0 (lo.map ρ) (hi.map ρ) (mx.map ρ) with
      | some _ => some .nilSlc
      | none => none
    | _ => none
  | .sls lo hi x => match ρ x with
    | .str s => match abounds s.length s.length (lo.map ρ) (hi.map ρ) none with
      | some (l, h, _) => some (.str ((s.drop l).take (h - l)))
      | none => none
    | _ => none
  | .nilck x => match ρ x with
    | .ptr b o => some (.ptr b o)
    | .fn (.func f) l c => some (.fn (.func f) l c)
    | .yld r => some (.yld r)
    | .slc b o n c es => some (.slc b o n c es)
    | .map r => some (.map r)
    | _ => none
  | .lens x => match ρ x with
    | .str s => some (.int .i64 s.length)
    | _ => none
  | .lenl x => match ρ x with
    | .slc _ _ n _ _ => some (.int .i64 n)
    | .nilSlc => some (.int .i64 0)
    | _ => none
  | .lena n => some (.int .i64 n)
  | .mn x y => match ρ x, ρ y with
    | .int k a, .int _ b => some (.int k (if b < a then b else a))
    | _, _ => none
  | .mx x y => match ρ x, ρ y with
    | .int k a, .int _ b => some (.int k (if b > a then b else a))
    | _, _ => none
  | .tas t zero x => match ρ x with
    | .ifc u v => if u = t then some (.tup [v, .bool true]) else some (.tup [zero, .bool false])
    | .nilIfc => some (.tup [zero, .bool false])
    | _ => none
end Go.A
end
section
namespace Go.A
section
variable {P : Program} {κ : Kap} {w : World}
theorem ibin_sound {op : BinOp} {k : IntKind} {a b : Int} {v : AV} {xT : TypeId} (hns : op ≠ .shl) (hns' : op ≠ .shr) (h : aibin op k a b = some v) :
    ∃ V, (binOp op xT (.int k a) (.int k b)).run P w = .ok V w ∧ VR κ v V := by
  cases op <;> simp [aibin] at h hns hns' <;>
    first
      | (subst h; exact ⟨_, by simp [binOp, Op.intArith, Op.intBits, Op.intCmp], .int _ _⟩)
      | (subst h; exact ⟨_, by simp [binOp, Op.intCmp], .bool _⟩)
      | (obtain ⟨hb, rfl⟩ := h; exact ⟨_, by simp [binOp, Op.intDiv, hb], .int _ _⟩)
theorem shift_sound {op : BinOp} {k k' : IntKind} {a b : Int} {v : AV} {xT : TypeId} (h : ashift op k a b = some v) :
    ∃ V, (binOp op xT (.int k a) (.int k' b)).run P w = .ok V w ∧ VR κ v V := by
  unfold ashift at h
  split at h
  · cases h
  · rename_i hb
    cases op <;> simp at h <;> subst h <;> exact ⟨_, by simp [binOp, Op.shift, hb], .int _ _⟩
theorem sbin_sound {op : BinOp} {x y : List UInt8} {X Y : ByteArray} (hx : X.data.toList = x) (hy : Y.data.toList = y) {v : AV} {xT : TypeId} (h : asbin op x y = some v) :
    ∃ V, (binOp op xT (.string X) (.string Y)).run P w = .ok V w ∧ VR κ v V := by
  subst hx hy
  cases op <;> simp [asbin] at h
  case add =>
    obtain ⟨hb, rfl⟩ := h
    exact ⟨.string (X ++ Y), by simp [binOp, Op.stringOp]; exact hb, .str _ _ (by simp)⟩
  all_goals (subst h; refine ⟨_, by simp [binOp, Op.stringOp, ByteArray.toList_eq]; rfl, ?_⟩; first | exact .bool _ | skip)

theorem abound_sound {v : AV} {V : Value} {y n : Nat} {code : BoundsCode} (hv : VR κ v V) (h : abound v y = some n) : (Instr.sliceBound V y code).run P w = .ok n w ∧ n ≤ y := by
  cases hv <;> simp [abound] at h
  obtain ⟨⟨h0, h1⟩, rfl⟩ := h
  exact ⟨by simp [Instr.sliceBound, asIntOf, h0, h1], by omega⟩
def optR (κ : Kap) : Option AV → Option Value → Prop
  | none, none => True
  | some v, some V => VR κ v V
  | _, _ => False
/-- The bounds of a slice expression; cap: what is known of the capacity, cap' the true one. -/
theorem abounds_sound {isS : Bool} {len cap cap' : Nat} {lo hi mx : Option AV} {Lo Hi Mx : Option Value} (hlo : optR κ lo Lo) (hhi : optR κ hi Hi) (hmx : optR κ mx Mx)
    (hcap : cap ≤ cap') (hlc : len ≤ cap') {l h : Nat} {m : Option Nat} (hb : abounds len cap lo hi mx = some (l, h, m)) :
    ∃ m', (Instr.sliceBounds isS len cap' Lo Hi Mx).run P w = .ok (l, h, m') w ∧ l ≤ h ∧ h ≤ m' ∧ m' ≤ cap' ∧ (∀ x, m = some x → m' = x ∧ mx.isSome = true) ∧ (m = none → m' = cap' ∧ mx = none) := by
  have grow : ∀ {v : AV} {n y y' : Nat}, y ≤ y' → abound v y = some n → abound v y' = some n := by
    intro v n y y' hy hv
    cases v <;> simp [abound] at hv ⊢
    obtain ⟨⟨a, b⟩, c⟩ := hv
    exact ⟨⟨a, by omega⟩, c⟩
  unfold abounds at hb
  cases mx with
  | none =>
    cases Mx with
    | some _ => exact hmx.elim
    | none =>
      simp only at hb
      cases hi with
      | none =>
        cases Hi with
        | some _ => exact hhi.elim
        | none =>
          simp only at hb
          cases lo with
          | none =>
            cases Lo with
            | some _ => exact hlo.elim
            | none =>
              simp at hb
              obtain ⟨rfl, rfl, rfl⟩ := hb
              exact ⟨cap', by simp [Instr.sliceBounds], by omega, by omega, by omega, by simp, by simp⟩
          | some v =>
            cases Lo with
            | none => exact hlo.elim
            | some V =>
              simp only at hb
              cases ha : abound v len <;> simp [ha] at hb
              obtain ⟨rfl, rfl, rfl⟩ := hb
              obtain ⟨h1, h2⟩ := abound_sound (P := P) (w := w) (code := .sliceB) hlo ha
              exact ⟨cap', by simp [Instr.sliceBounds, h1], h2, by omega, by omega, by simp, by simp⟩
      | some u =>
        cases Hi with
        | none => exact hhi.elim
        | some U =>
          simp only at hb
          cases hu : abound u cap <;> simp only [hu] at hb
          · cases hb
          · rename_i hn
            obtain ⟨g1, g2⟩ := abound_sound (P := P) (w := w) (code := if isS = true then .sliceAcap else .sliceAlen) hhi (grow hcap hu)
            cases lo with
            | none =>
              cases Lo with
              | some _ => exact hlo.elim
              | none =>
                simp at hb
                obtain ⟨rfl, rfl, rfl⟩ := hb
                exact ⟨cap', by simp [Instr.sliceBounds, g1], by omega, by omega, by omega, by simp, by simp⟩
            | some v =>
              cases Lo with
              | none => exact hlo.elim
              | some V =>
                simp only at hb
                cases ha : abound v hn <;> simp [ha] at hb
                obtain ⟨rfl, rfl, rfl⟩ := hb
                obtain ⟨h1, h2⟩ := abound_sound (P := P) (w := w) (code := .sliceB) hlo ha
                exact ⟨cap', by simp [Instr.sliceBounds, h1, g1], h2, by omega, by omega, by simp, by simp⟩
  | some m0 =>
    cases Mx with
    | none => exact hmx.elim
    | some M0 =>
      simp only at hb
      cases hi with
      | none => cases hm0 : abound m0 cap <;> simp [hm0] at hb
      | some u =>
        cases Hi with
        | none => exact hhi.elim
        | some U =>
          cases hm0 : abound m0 cap <;> simp only [hm0] at hb
          · cases hb
          · rename_i mn
            obtain ⟨f1, f2⟩ := abound_sound (P := P) (w := w) (code := if isS = true then .slice3Acap else .slice3Alen) hmx (grow hcap hm0)
            cases hu : abound u mn <;> simp only [hu] at hb
            · cases hb
            · rename_i hn
              obtain ⟨g1, g2⟩ := abound_sound (P := P) (w := w) (code := .slice3B) hhi hu
              cases lo with
              | none =>
                cases Lo with
                | some _ => exact hlo.elim
                | none =>
                  simp at hb
                  obtain ⟨rfl, rfl, rfl⟩ := hb
                  exact ⟨mn, by simp [Instr.sliceBounds, g1, f1], by omega, by omega, by omega, by simp, by simp⟩
              | some v =>
                cases Lo with
                | none => exact hlo.elim
                | some V =>
                  simp only at hb
                  cases ha : abound v hn <;> simp [ha] at hb
                  obtain ⟨rfl, rfl, rfl⟩ := hb
                  obtain ⟨h1, h2⟩ := abound_sound (P := P) (w := w) (code := .slice3C) hlo ha
                  exact ⟨mn, by simp [Instr.sliceBounds, h1, g1, f1], h2, by omega, by omega, by simp, by simp⟩
end
end Go.A
end
section
namespace Go.A
/-! ### Laying parts into cells -/
theorem setFold {α : Type} (off : Nat) : ∀ (L : List α) (s : Nat) (cs : List α), off + s + L.length ≤ cs.length →
    (L.zipIdx s).foldl (fun cs (x : α × Nat) => cs.set (off + x.2) x.1) cs = cs.take (off + s) ++ L ++ cs.drop (off + s + L.length)
  | [], s, cs, _ => by simp
  | a :: L, s, cs, h => by
    simp only [List.zipIdx_cons, List.foldl_cons]
    rw [setFold off L (s + 1) _ (by simp at h ⊢; omega)]
    simp at h
    have h1 : off + s < cs.length := by omega
    apply List.ext_getElem?
    intro i
    simp only [List.getElem?_append, List.length_append, List.length_take, List.length_set, List.getElem?_take, List.getElem?_drop, List.length_cons, List.getElem?_set]
    have e1 : min (off + (s + 1)) cs.length = off + s + 1 := by omega
    have e2 : min (off + s) cs.length = off + s := by omega
    rw [e1, e2]
    by_cases c1 : i < off + s
    · rw [if_pos (by omega), if_pos (by omega), if_pos (by omega), if_neg (by omega), if_pos (by omega), if_pos (by omega), if_pos c1]
    · by_cases c2 : i = off + s
      · subst c2
        simp [h1]
        intro h; omega
      · rw [if_neg c1]
        by_cases c3 : i < off + s + 1 + L.length
        · rw [if_pos (by omega), if_neg (by omega), if_pos (by omega)]
          obtain ⟨j, rfl⟩ : ∃ j, i = off + s + 1 + j := ⟨i - (off + s + 1), by omega⟩
          have : off + s + 1 + j - (off + s) = j + 1 := by omega
          rw [this]
          simp only [List.getElem?_cons_succ]
          congr 1; omega
        · rw [if_neg (by omega), if_neg (by omega), if_neg (by omega)]
          congr 1; omega
theorem foldl_toList {α β : Type} (f : Array α → β → Array α) (g : List α → β → List α) (h : ∀ c b, (f c b).toList = g c.toList b) : ∀ (l : List β) (c : Array α), (l.foldl f c).toList = l.foldl g c.toList
  | [], c => rfl
  | b :: l, c => by simp only [List.foldl_cons]; rw [foldl_toList f g h l, h]
theorem fill_sound {κ : Kap} (place : Nat → Option (Nat × Nat)) : ∀ (ps : List (Nat × Value)) (as : List (Nat × Nat × AV)),
    L2 (fun (p : Nat × Value) (a : Nat × Nat × AV) => place p.1 = some (a.1, a.2.1) ∧ VR κ a.2.2 p.2) ps as →
    ∀ (C : Array Value) (c c' : List AV), VRs κ c C.toList → afill c as = some c' → ∃ C', Instr.fill place C ps = some C' ∧ VRs κ c' C'.toList
  | [], _, .nil, C, c, c', hc, h => by simp [afill] at h; subst h; exact ⟨C, rfl, hc⟩
  | (i, V) :: ps, (off, size, v) :: as, .cons ⟨hp, hv⟩ hs, C, c, c', hc, h => by
    simp only [afill] at h
    split at h
    · cases h
    · rename_i l hl
      split at h
      · cases h
      · rename_i hcond
        have hVl := hv.cells hl
        have hlen : l.length = V.cells.size := by simpa using hVl.length
        have hclen : c.length = C.size := by simpa using hc.length
        have hc1 : ¬ (V.cells.size ≠ size) := fun e => hcond (.inl (by omega))
        have hc2 : ¬ (off + V.cells.size > C.size) := fun e => hcond (.inr (by omega))
        have : (decide (V.cells.size ≠ size) || decide (off + V.cells.size > C.size)) = false := by
          simp only [Bool.or_eq_false_iff, decide_eq_false_iff_not]
          exact ⟨hc1, hc2⟩
        have hgo : Instr.fill place C ((i, V) :: ps) = Instr.fill place (V.cells.zipIdx.foldl (fun cs (c, j) => cs.setIfInBounds (off + j) c) C) ps := by
          simp only [Instr.fill, hp, this, Bool.false_eq_true, if_false]
        rw [hgo]
        refine fill_sound place ps as hs _ _ c' ?_ h
        have e1 : (Array.foldl (fun (cs : Array Value) (x : Value × Nat) => cs.setIfInBounds (off + x.2) x.1) C V.cells.zipIdx).toList
            = C.toList.take off ++ V.cells.toList ++ C.toList.drop (off + V.cells.toList.length) := by
          rw [← Array.foldl_toList]
          rw [foldl_toList _ (fun cs (x : Value × Nat) => cs.set (off + x.2) x.1) (by intro c b; show (c.setIfInBounds (off + b.2) b.1).toList = _; simp)]
          have := setFold off V.cells.toList 0 C.toList (by simp; omega)
          simpa [Array.toList_zipIdx] using this
        have e2 : (fun (cs : Array Value) (x : Value × Nat) => match x with | (c, j) => cs.setIfInBounds (off + j) c) = (fun (cs : Array Value) (x : Value × Nat) => cs.setIfInBounds (off + x.2) x.1) := by
          funext cs x; rfl
        rw [e2, e1]
        have e3 : V.cells.toList.length = l.length := by simp [hlen]
        rw [e3]
        exact ((hc.take off).append hVl).append (hc.drop _)

def lowOpds : List Operand → Option (List Opd)
  | [] => some []
  | x :: r => match lowOpd x, lowOpds r with
    | some y, some l => some (y :: l)
    | _, _ => none
def lowOpt : Option Operand → Option (Option Opd)
  | none => some none
  | some x => (lowOpd x).map some
def lowParts (place : Nat → Option (Nat × Nat)) : List (Nat × Operand) → Option (List (Nat × Nat × Opd))
  | [] => some []
  | (i, x) :: r => match place i, lowOpd x, lowParts place r with
    | some (off, size), some y, some l => some ((off, size, y) :: l)
    | _, _, _ => none
def fieldPlaces (P : Program) : List Field → Option (List (Nat × Nat))
  | [] => some []
  | f :: r => match P.info? f.type, fieldPlaces P r with
    | some i, some l => some ((f.offset, i.size) :: l)
    | _, _ => none
def zeroCells (P : Program) (t : TypeId) : Option (List AV) :=
  match zeroT P t with
  | some z => z.cells
  | none => none
def isConstO : Operand → Bool
  | .const _ => true
  | _ => false
def guardOK (P : Program) (t : TypeId) (d : TypeDesc) (x y : Operand) : Bool :=
  match d with
  | .interface _ => isConstO x || isConstO y
  | .struct _ | .array _ _ => !P.eqGuardType P.depth t
  | .int _ | .string => false
  | _ => true
def lowEq2 (P : Program) (neg : Bool) (t : TypeId) (d : TypeDesc) (x y : Operand) (a b : Opd) : Option POp :=
  match eqLow P 6 t with
  | some e => if guardOK P t d x y then some (.eq e neg a b) else none
  | none => none
/-- An operation that only computes, out of the model's. -/
def lowP (P : Program) (o : Oper) : Option POp :=
  match o.op with
  | .move x | .assign x => (lowOpd x).map .mv
  | .pick c a b => match lowOpd c, lowOpd a, lowOpd b with
    | some c, some a, some b => some (.pick c a b)
    | _, _, _ => none
  | .build t parts => match zeroCells P t, P.underlying t with
    | some z, some (.struct fs) => match fieldPlaces P fs.toList with
      | some l => (lowParts (fun i => l[i]?) parts.toList).map (.build z)
      | none => none
    | some z, some (.array _ e) => match P.info? e with
      | some i => (lowParts (fun j => some (j * i.size, i.size)) parts.toList).map (.build z)
      | none => none
    | _, _ => none
  | .binOp op t x y _ => match lowOpd x, lowOpd y, P.underlying t with
    | some a, some b, some (.int _) => some (.ibin op a b)
    | some a, some b, some .string => some (.sbin op a b)
    | some a, some b, some d => match op with
      | .eql => lowEq2 P false t d x y a b
      | .neq => lowEq2 P true t d x y a b
      | _ => none
    | _, _, _ => none
  | .unOp op _ x => (lowOpd x).map (.un op)
  | .convert src dst x => match lowOpd x, P.underlying src, P.underlying dst with
    | some a, some (.int _), some (.int k) => some (.cint k a)
    | some a, some (.int _), some .string => some (.cis a)
    | some a, some .string, some .string => some (.cid a)
    | _, _, _ => none
  | .makeInterface t x => match lowOpd x, P.underlying t with
    | some _, some (.interface _) => none
    | some a, some _ => some (.mki t a)
    | _, _ => none
  | .makeFunc fn first cap => match lowOpds first.toList, lowOpds cap.toList with
    | some f, some c => some (.mkf fn f c)
    | _, _ => none
  | .fieldAddr s x f => match lowOpd x, P.underlying s with
    | some a, some (.struct fs) => match fs[f]? with
      | some fl => match P.info? fl.type with
        | some i => if i.size = 0 then none else some (.fad fl.offset a)
        | none => none
      | none => none
    | _, _ => none
  | .field t x f => match lowOpd x, P.underlying t with
    | some a, some (.struct fs) => match fs[f]? with
      | some fl => match P.info? fl.type, P.underlying fl.type with
        | some i, some d => some (.fld fl.offset i.size (aggD d) a)
        | _, _ => none
      | none => none
    | _, _ => none
  | .indexAddr t x i => match lowOpd x, lowOpd i, P.underlying t with
    | some a, some b, some (.slice e) => match P.info? e with
      | some f => some (.iad f.size a b)
      | none => none
    | some a, some b, some (.array n e) => match P.info? e with
      | some f => some (.iada n f.size a b)
      | none => none
    | _, _, _ => none
  | .index t x i => match lowOpd x, lowOpd i, P.underlying t with
    | some a, some b, some .string => some (.ixs a b)
    | some a, some b, some (.array n e) => match P.info? e, P.underlying e with
      | some f, some d => some (.ixa n f.size (aggD d) a b)
      | _, _ => none
    | _, _, _ => none
  | .extract x i => (lowOpd x).map fun a => .ext a i
  | .slice t x lo hi mx => match lowOpd x, lowOpt lo, lowOpt hi, lowOpt mx, P.underlying t with
    | some a, some l, some h, some m, some (.slice e) => match P.info? e with
      | some f => some (.slc f.size l h m a)
      | none => none
    | some a, some l, some h, some none, some .string => some (.sls l h a)
    | _, _, _, _, _ => none
  | .nilCheck x => (lowOpd x).map .nilck
  | .typeAssert x _ t true => match lowOpd x, P.underlying t, zeroT P t with
    | some _, some (.interface _), _ => none
    | some a, some _, some z => some (.tas t z a)
    | _, _, _ => none
  | .call { callee := .builtin .len, args, argTypes } => match args.toList, argTypes[0]? with
    | [x], some t => match lowOpd x, P.underlying t with
      | some a, some .string => some (.lens a)
      | some a, some (.slice _) => some (.lenl a)
      | some _, some (.array n _) => some (.lena n)
      | _, _ => none
    | _, _ => none
  | .call { callee := .builtin .min, args, .. } => match args.toList with
    | [x, y] => match lowOpd x, lowOpd y with
      | some a, some b => some (.mn a b)
      | _, _ => none
    | _ => none
  | .call { callee := .builtin .max, args, .. } => match args.toList with
    | [x, y] => match lowOpd x, lowOpd y with
      | some a, some b => some (.mx a b)
      | _, _ => none
    | _ => none
  | _ => none
section
variable {P : Program} {κ : Kap} {w : World} {ρ : Opd → AV} {ρc : Operand → Value}
/-- The operands stand for each other. -/
def OR (κ : Kap) (ρ : Opd → AV) (ρc : Operand → Value) : Prop := ∀ x y, lowOpd x = some y → VR κ (ρ y) (ρc x)
theorem OR.list (h : OR κ ρ ρc) : ∀ {xs : List Operand} {ys : List Opd}, lowOpds xs = some ys → VRs κ (ys.map ρ) (xs.map ρc)
  | [], _, hx => by simp [lowOpds] at hx; subst hx; exact .nil
  | x :: xs, ys, hx => by
    simp only [lowOpds] at hx
    split at hx
    · rename_i y l hy hl
      cases hx
      exact .cons _ _ _ _ (h x y hy) (h.list hl)
    · cases hx
theorem OR.opt (h : OR κ ρ ρc) {x : Option Operand} {y : Option Opd} (hx : lowOpt x = some y) : optR κ (y.map ρ) (x.map ρc) := by
  cases x with
  | none => simp [lowOpt] at hx; subst hx; trivial
  | some x =>
    simp only [lowOpt, Option.map_eq_some_iff] at hx
    obtain ⟨z, hz, rfl⟩ := hx
    exact h x z hz
theorem OR.parts (h : OR κ ρ ρc) (place : Nat → Option (Nat × Nat)) : ∀ {ps : List (Nat × Operand)} {as : List (Nat × Nat × Opd)}, lowParts place ps = some as →
    L2 (fun (p : Nat × Value) (a : Nat × Nat × AV) => place p.1 = some (a.1, a.2.1) ∧ VR κ a.2.2 p.2) (ps.map fun (i, x) => (i, ρc x)) (as.map fun (o, s, x) => (o, s, ρ x))
  | [], _, hx => by simp [lowParts] at hx; subst hx; exact .nil
  | (i, x) :: ps, as, hx => by
    simp only [lowParts] at hx
    split at hx
    · rename_i off size y l hp hy hl
      cases hx
      exact .cons ⟨hp, h x y hy⟩ (h.parts place hl)
    · cases hx
theorem zeroT_sound {t : TypeId} {z : AV} (h : zeroT P t = some z) : ∃ Z, (zeroValue t).run P w = .ok Z w ∧ VR κ z Z := by
  unfold zeroT at h
  split at h
  · rename_i i hi
    split at h
    · rename_i Z hZ
      exact ⟨Z, run_zero hi hZ, constOf_VR κ h⟩
    · cases h
  · cases h
theorem zeroCells_sound {t : TypeId} {z : List AV} (h : zeroCells P t = some z) : ∃ Z, (zeroValue t).run P w = .ok Z w ∧ VRs κ z Z.cells.toList := by
  unfold zeroCells at h
  split at h
  · rename_i v hv
    obtain ⟨Z, hZ, hr⟩ := zeroT_sound (w := w) (κ := κ) hv
    exact ⟨Z, hZ, hr.cells h⟩
  · cases h
end
end Go.A
end
section
namespace Go.A
section
variable {P : Program} {κ : Kap} {w : World} {ρ : Opd → AV} {ρc : Operand → Value}
def PSound (P : Program) (κ : Kap) (w : World) (ρ : Opd → AV) (ρc : Operand → Value) (o : Oper) (p : POp) : Prop :=
  ∀ v, pop ρ p = some v → ∃ V, (execOp ρc o).run P w = .ok (.value V) w ∧ VR κ v V
theorem run_v {x : Sem Value} {V : Value} (h : x.run P w = .ok V w) : (do pure (Next.value (← x)) : Sem Next).run P w = .ok (.value V) w := by
  simp [h]
theorem ps_move (h : OR κ ρ ρc) {o : Oper} {x : Operand} {y : Opd} (hy : lowOpd x = some y) (ho : o.op = .move x ∨ o.op = .assign x) : PSound P κ w ρ ρc o (.mv y) := by
  intro v hv
  simp [pop] at hv; subst hv
  rcases ho with ho | ho <;> exact ⟨ρc x, by simp [execOp, ho], h x y hy⟩
theorem ps_pick (h : OR κ ρ ρc) {o : Oper} {c a b : Operand} {c' a' b' : Opd} (hc : lowOpd c = some c') (ha : lowOpd a = some a') (hb : lowOpd b = some b') (ho : o.op = .pick c a b) :
    PSound P κ w ρ ρc o (.pick c' a' b') := by
  intro v hv
  have h1 := h _ _ hc
  simp only [pop] at hv
  split at hv
  · rename_i t ht
    rw [ht] at h1
    cases hcc : ρc c <;> rw [hcc] at h1 <;> cases h1
    cases hv
    refine ⟨if t then ρc a else ρc b, ?_, ?_⟩
    · simp [execOp, ho, hcc, asBool]
    · cases t
      · exact h _ _ hb
      · exact h _ _ ha
  · cases hv
theorem ps_build_st (h : OR κ ρ ρc) {o : Oper} {t : TypeId} {parts : Array (Nat × Operand)} {z : List AV} {fs : Array Field} {l : List (Nat × Nat)} {ps : List (Nat × Nat × Opd)}
    (hz : zeroCells P t = some z) (hu : P.underlying t = some (.struct fs)) (hl : fieldPlaces P fs.toList = some l) (hp : lowParts (fun i => l[i]?) parts.toList = some ps) (ho : o.op = .build t parts) :
    PSound P κ w ρ ρc o (.build z ps) := by
  intro v hv
  obtain ⟨Z, hZ, hZr⟩ := zeroCells_sound (P := P) (w := w) (κ := κ) hz
  simp only [pop, Option.map_eq_some_iff] at hv
  obtain ⟨c, hc, rfl⟩ := hv
  have hpl : ∀ (fs : List Field) (l : List (Nat × Nat)), fieldPlaces P fs = some l → (fs.mapM fun (f : Field) => (do pure (f.offset, ← sizeOf f.type) : Sem (Nat × Nat))).run P w = .ok l w := by
    intro fs
    induction fs with
    | nil => intro l hl; simp [fieldPlaces] at hl; subst hl; simp
    | cons f fs ih =>
      intro l hl
      simp only [fieldPlaces] at hl
      split at hl
      · rename_i i m hi hm
        cases hl
        simp only [List.mapM_cons, Sem.run_bind, run_size hi, Result.andThen_ok, Sem.run_pure, ih m hm]
      · cases hl
  have hmap : (fs.mapM fun (f : Field) => (do pure (f.offset, ← sizeOf f.type) : Sem (Nat × Nat))).run P w = .ok l.toArray w := by
    rw [Array.mapM_eq_mapM_toList]
    simp only [Sem.run_map, hpl _ _ hl, Result.andThen_ok]
  have hparts := h.parts (fun (i : Nat) => l[i]?) hp
  have hplace : (fun (i : Nat) => l.toArray[i]?) = fun (i : Nat) => l[i]? := by funext i; simp
  obtain ⟨C', hC', hCr⟩ := fill_sound (fun (i : Nat) => l[i]?) _ _ hparts Z.cells z c hZr hc
  refine ⟨.agg C', ?_, .agg _ _ hCr⟩
  have e1 : (parts.map fun (x : Nat × Operand) => (x.1, ρc x.2)).toList = parts.toList.map fun (i, x) => (i, ρc x) := by simp
  simp only [execOp, ho, Instr.build]
  refine run_v ?_
  simp only [Sem.run_bind, hZ, Result.andThen_ok, run_underlying hu, hmap, hplace]
  simp only [e1, hC', Sem.run_pure]
theorem ps_build_arr (h : OR κ ρ ρc) {o : Oper} {t e : TypeId} {n : Nat} {parts : Array (Nat × Operand)} {z : List AV} {i : TypeInfo} {ps : List (Nat × Nat × Opd)}
    (hz : zeroCells P t = some z) (hu : P.underlying t = some (.array n e)) (hi : P.info? e = some i) (hp : lowParts (fun j => some (j * i.size, i.size)) parts.toList = some ps) (ho : o.op = .build t parts) :
    PSound P κ w ρ ρc o (.build z ps) := by
  intro v hv
  obtain ⟨Z, hZ, hZr⟩ := zeroCells_sound (P := P) (w := w) (κ := κ) hz
  simp only [pop, Option.map_eq_some_iff] at hv
  obtain ⟨c, hc, rfl⟩ := hv
  have hparts := h.parts (fun j => some (j * i.size, i.size)) hp
  obtain ⟨C', hC', hCr⟩ := fill_sound (fun j => some (j * i.size, i.size)) _ _ hparts Z.cells z c hZr hc
  refine ⟨.agg C', ?_, .agg _ _ hCr⟩
  have e1 : (parts.map fun (x : Nat × Operand) => (x.1, ρc x.2)).toList = parts.toList.map fun (i, x) => (i, ρc x) := by simp
  simp only [execOp, ho, Instr.build]
  refine run_v ?_
  simp only [Sem.run_bind, hZ, Result.andThen_ok, run_underlying hu, run_size hi]
  simp only [e1, hC', Sem.run_pure]
theorem eqGuard_ok {op : BinOp} {t : TypeId} {x y : Operand} {a b : Value} (h1 : (a = .nilIface ∧ b = .nilIface) → (isConstO x || isConstO y) = true)
    (h2 : ∀ xs ys, a = .agg xs → b = .agg ys → P.eqGuardType P.depth t = false) : (eqGuard op t x y a b).run P w = .ok () w := by
  have go : (op = .eql ∨ op = .neq) → (eqGuard op t x y a b).run P w = .ok () w := by
    intro hop
    have e : eqGuard op t x y a b = eqGuard .eql t x y a b := by rcases hop with rfl | rfl <;> rfl
    rw [e]
    simp only [eqGuard, Bool.not_true, Bool.false_eq_true, if_false]
    split
    · have := h1 ⟨rfl, rfl⟩
      cases x <;> cases y <;> simp [isConstO] at this <;> simp
    · have := h2 _ _ rfl rfl
      simp [this]
    · rfl
  cases op <;> first | exact go (.inl rfl) | exact go (.inr rfl) | rfl
theorem guard_other {op : BinOp} {t : TypeId} {x y : Operand} {a b : Value} (h1 : a ≠ .nilIface) (h2 : ∀ xs, a ≠ .agg xs) : (eqGuard op t x y a b).run P w = .ok () w :=
  eqGuard_ok (fun h => absurd h.1 h1) (fun xs _ h => absurd h (h2 xs))
theorem ps_ibin (h : OR κ ρ ρc) {o : Oper} {op : BinOp} {t t' : TypeId} {x y : Operand} {x' y' : Opd} (hx : lowOpd x = some x') (hy : lowOpd y = some y') (ho : o.op = .binOp op t x y t') :
    PSound P κ w ρ ρc o (.ibin op x' y') := by
  intro v hv
  have h1 := h _ _ hx
  have h2 := h _ _ hy
  simp only [pop] at hv
  split at hv
  · rename_i k a k' b ha hb
    rw [ha] at h1; rw [hb] at h2
    cases hxc : ρc x <;> rw [hxc] at h1 <;> cases h1
    cases hyc : ρc y <;> rw [hyc] at h2 <;> cases h2
    have hg : (eqGuard op t x y (.int k a) (.int k' b)).run P w = .ok () w := guard_other (by simp) (by simp)
    have key : ∃ V, (binOp op t (.int k a) (.int k' b)).run P w = .ok V w ∧ VR κ v V := by
      split at hv
      · exact shift_sound hv
      · exact shift_sound hv
      · split at hv
        · rename_i hk; subst hk
          exact ibin_sound (by assumption) (by assumption) hv
        · cases hv
    obtain ⟨V, hV, hr⟩ := key
    refine ⟨V, ?_, hr⟩
    simp only [execOp, ho, hxc, hyc]
    exact run_v (by simp [hg, hV])
  · cases hv
theorem ps_sbin (h : OR κ ρ ρc) {o : Oper} {op : BinOp} {t t' : TypeId} {x y : Operand} {x' y' : Opd} (hx : lowOpd x = some x') (hy : lowOpd y = some y') (ho : o.op = .binOp op t x y t') :
    PSound P κ w ρ ρc o (.sbin op x' y') := by
  intro v hv
  have h1 := h _ _ hx
  have h2 := h _ _ hy
  simp only [pop] at hv
  split at hv
  · rename_i a b ha hb
    rw [ha] at h1; rw [hb] at h2
    cases hxc : ρc x <;> rw [hxc] at h1 <;> cases h1
    rename_i s hs
    cases hyc : ρc y <;> rw [hyc] at h2 <;> cases h2
    rename_i s' hs'
    have hg : (eqGuard op t x y (.string s) (.string s')).run P w = .ok () w := guard_other (by simp) (by simp)
    obtain ⟨V, hV, hr⟩ := sbin_sound (P := P) (w := w) (κ := κ) (xT := t) hs hs' hv
    refine ⟨V, ?_, hr⟩
    simp only [execOp, ho, hxc, hyc]
    exact run_v (by simp [hg, hV])
  · cases hv

theorem eql_def {t : TypeId} {V V' : Value} (hni : ∀ k n, V ≠ .int k n) (hns : ∀ s, V ≠ .string s) (hf : ∀ k n, V ≠ .float k n) (hc : ∀ k n m, V ≠ .complex k n m) :
    binOp .eql t V V' = (do pure (.bool (← Op.equal t V V'))) := by
  cases V <;> first | rfl | exact absurd rfl (hni _ _) | exact absurd rfl (hns _) | exact absurd rfl (hf _ _) | exact absurd rfl (hc _ _ _)
theorem neq_def {t : TypeId} {V V' : Value} (hni : ∀ k n, V ≠ .int k n) (hns : ∀ s, V ≠ .string s) (hf : ∀ k n, V ≠ .float k n) (hc : ∀ k n m, V ≠ .complex k n m) :
    binOp .neq t V V' = (do pure (.bool (!(← Op.equal t V V')))) := by
  cases V <;> first | rfl | exact absurd rfl (hni _ _) | exact absurd rfl (hns _) | exact absurd rfl (hf _ _) | exact absurd rfl (hc _ _ _)
end
end Go.A
end
section
namespace Go.A
section
variable {P : Program} {κ : Kap} {w : World} {ρ : Opd → AV} {ρc : Operand → Value}
theorem vr_int {k : IntKind} {n : Int} {V : Value} (h : VR κ (.int k n) V) : V = .int k n := by cases h; rfl
theorem vr_bool {b : Bool} {V : Value} (h : VR κ (.bool b) V) : V = .bool b := by cases h; rfl
theorem vr_ptr {B o : Nat} {V : Value} (h : VR κ (.ptr B o) V) : ∃ k, κ B = some k ∧ V = .pointer (some ⟨k.blk, k.off + o, none⟩) := by
  cases h with | ptr _ _ k hk => exact ⟨k, hk, rfl⟩
theorem vr_str {l : List UInt8} {V : Value} (h : VR κ (.str l) V) : ∃ s, V = .string s ∧ s.data.toList = l := by
  cases h with | str _ s hs => exact ⟨s, rfl, hs⟩
theorem vr_agg {l : List AV} {V : Value} (h : VR κ (.agg l) V) : ∃ L, V = .agg L ∧ VRs κ l L.toList := by
  cases h with | agg _ L hs => exact ⟨L, rfl, hs⟩
theorem vr_tup {l : List AV} {V : Value} (h : VR κ (.tup l) V) : ∃ L, V = .tuple L ∧ VRs κ l L.toList := by
  cases h with | tup _ L hs => exact ⟨L, rfl, hs⟩
theorem vr_slc {B o n es : Nat} {c : Option Nat} {V : Value} (h : VR κ (.slc B o n c es) V) :
    (∃ k cap, κ B = some k ∧ n ≤ cap ∧ k.off + o + cap * es ≤ k.size ∧ (∀ x, c = some x → cap = x) ∧ (c = none → k.off + o + cap * es = k.size) ∧ V = .slice (some ⟨k.blk, k.off + o, none⟩) n cap) ∨
    (∃ a, n = 0 ∧ (∀ x, c = some x → x = 0) ∧ (c = none → ∃ k, κ B = some k ∧ k.off + o = k.size) ∧ V = .slice (some a) 0 0) := by
  cases h with
  | slc _ _ _ _ _ k cap hk hn hs hc he => exact .inl ⟨k, cap, hk, hn, hs, hc, he, rfl⟩
  | slcE _ _ _ _ a hc he => exact .inr ⟨a, rfl, hc, he, rfl⟩
def ke : EqT → Nat
  | .int => 1 | .str => 2 | .ifn => 3 | .st _ => 4 | .arr _ _ _ _ => 5 | _ => 0
def kd : TypeDesc → Nat
  | .int _ => 1 | .string => 2 | .interface _ => 3 | .struct _ => 4 | .array _ _ => 5 | _ => 0
theorem ke_kd {n : Nat} {t : TypeId} {e : EqT} {d : TypeDesc} (hd : P.underlying t = some d) (he : eqLow P (n + 1) t = some e) : ke e = kd d := by
  simp only [eqLow, hd] at he
  cases d <;> simp at he <;> (try (subst he; rfl))
  · split at he
    · split at he
      · cases he
      · cases he; rfl
    · cases he
  · split at he
    · cases he; rfl
    · cases he
  · obtain ⟨_, l, _, rfl⟩ := he; rfl
theorem aeq_int {e : EqT} {k : IntKind} {n : Int} {v : AV} {b : Bool} (h : aeq e (.int k n) v = some b) : ke e = 1 := by
  cases e <;> first | rfl | simp [aeq] at h
theorem aeq_str {e : EqT} {s : List UInt8} {v : AV} {b : Bool} (h : aeq e (.str s) v = some b) : ke e = 2 := by
  cases e <;> first | rfl | simp [aeq] at h
theorem aeq_nil {e : EqT} {v : AV} {b : Bool} (h : aeq e .nilIfc v = some b) : ke e = 3 := by
  cases e <;> first | rfl | simp [aeq] at h
theorem aeq_agg {e : EqT} {l : List AV} {v : AV} {b : Bool} (h : aeq e (.agg l) v = some b) : ke e = 4 ∨ ke e = 5 := by
  cases e <;> first | exact .inl rfl | exact .inr rfl | simp [aeq] at h
theorem aeq_junk {e : EqT} {v : AV} {b : Bool} : aeq e .junk v ≠ some b := by
  cases e <;> simp [aeq]
theorem ps_eq (h : OR κ ρ ρc) {o : Oper} {neg : Bool} {t t' : TypeId} {x y : Operand} {x' y' : Opd} {e : EqT} {d : TypeDesc} (hx : lowOpd x = some x') (hy : lowOpd y = some y') (hd : P.underlying t = some d)
    (he : eqLow P 6 t = some e) (hg : match d with | .interface _ => (isConstO x || isConstO y) = true | .struct _ => P.eqGuardType P.depth t = false | .array _ _ => P.eqGuardType P.depth t = false | .int _ => False | .string => False | _ => True)
    (ho : o.op = .binOp (if neg then .neq else .eql) t x y t') : PSound P κ w ρ ρc o (.eq e neg x' y') := by
  intro v hv
  have h1 := h _ _ hx
  have h2 := h _ _ hy
  simp only [pop, Option.map_eq_some_iff] at hv
  obtain ⟨b, hb, rfl⟩ := hv
  have hq := eq_sound (w := w) 6 t e he 10000 (by omega) h1 h2 hb
  have hq' : (Op.equal t (ρc x) (ρc y)).run P w = .ok b w := hq
  have nf : ∀ k n, ρc x ≠ .float k n := by intro k n ee; rw [ee] at h1; generalize ρ x' = vx at h1 hb; cases h1; simp [aeq] at hb
  have nc : ∀ k n m, ρc x ≠ .complex k n m := by intro k n m ee; rw [ee] at h1; generalize ρ x' = vx at h1 hb; cases h1; simp [aeq] at hb
  have hcls : (∀ k n, ρc x ≠ .int k n) ∧ (∀ s, ρc x ≠ .string s) ∧ ((ρc x = .nilIface ∧ ρc y = .nilIface) → (isConstO x || isConstO y) = true) ∧
      (∀ xs ys, ρc x = .agg xs → ρc y = .agg ys → P.eqGuardType P.depth t = false) := by
    generalize ρ x' = vx at h1 hb
    generalize ρ y' = vy at h2 hb
    have hk := ke_kd hd he
    refine ⟨?_, ?_, ?_, ?_⟩
    · intro k n ee; rw [ee] at h1
      cases h1 with
      | junk => exact aeq_junk hb
      | int => rw [aeq_int hb] at hk; cases d <;> simp [kd] at hk hg
    · intro s ee; rw [ee] at h1
      cases h1 with
      | junk => exact aeq_junk hb
      | str => rw [aeq_str hb] at hk; cases d <;> simp [kd] at hk hg
    · rintro ⟨e1, e2⟩; rw [e1] at h1
      cases h1 with
      | junk => exact absurd hb aeq_junk
      | nilIfc => rw [aeq_nil hb] at hk; cases d <;> simp [kd] at hk hg; simpa using hg
    · intro xs ys e1 e2; rw [e1] at h1
      cases h1 with
      | junk => exact absurd hb aeq_junk
      | agg => rcases aeq_agg hb with h' | h' <;> rw [h'] at hk <;> cases d <;> simp [kd] at hk hg <;> exact hg
  obtain ⟨ni, ns, hnil, hagg⟩ := hcls
  refine ⟨.bool (b != neg), ?_, .bool _⟩
  simp only [execOp, ho]
  refine run_v ?_
  cases neg
  · have hgd : (eqGuard .eql t x y (ρc x) (ρc y)).run P w = .ok () w := eqGuard_ok hnil hagg
    simp only [Bool.false_eq_true, if_false, Sem.run_bind, hgd, Result.andThen_ok, eql_def ni ns nf nc, hq', Sem.run_pure]
    simp
  · have hgd : (eqGuard .neq t x y (ρc x) (ρc y)).run P w = .ok () w := eqGuard_ok hnil hagg
    simp only [if_true, Sem.run_bind, hgd, Result.andThen_ok, neq_def ni ns nf nc, hq', Sem.run_pure]
    simp
end
end Go.A
end
section
namespace Go.A
section
variable {P : Program} {κ : Kap} {w : World} {ρ : Opd → AV} {ρc : Operand → Value}
theorem vr_nilSlc {V : Value} (h : VR κ .nilSlc V) : V = .slice none 0 0 := by cases h; rfl
theorem ps_un (h : OR κ ρ ρc) {o : Oper} {op : UnOp} {t : TypeId} {x : Operand} {x' : Opd} (hx : lowOpd x = some x') (ho : o.op = .unOp op t x) : PSound P κ w ρ ρc o (.un op x') := by
  intro v hv
  have h1 := h _ _ hx
  simp only [pop] at hv
  split at hv
  · rename_i k n hn
    rw [hn] at h1
    have e := vr_int h1
    simp [aibin] at hv; subst hv
    exact ⟨_, by simp [execOp, ho, e, Op.unary, Op.intArith], .int _ _⟩
  · rename_i k n hn
    rw [hn] at h1
    have e := vr_int h1
    simp [aibin] at hv; subst hv
    exact ⟨_, by simp [execOp, ho, e, Op.unary, Op.intBits], .int _ _⟩
  · rename_i b hb
    rw [hb] at h1
    have e := vr_bool h1
    cases hv
    exact ⟨_, by simp [execOp, ho, e, Op.unary], .bool _⟩
  · cases hv
theorem ps_cint (h : OR κ ρ ρc) {o : Oper} {s t : TypeId} {j k : IntKind} {x : Operand} {x' : Opd} (hx : lowOpd x = some x') (hs : P.underlying s = some (.int j)) (ht : P.underlying t = some (.int k)) (ho : o.op = .convert s t x) :
    PSound P κ w ρ ρc o (.cint k x') := by
  intro v hv
  have h1 := h _ _ hx
  simp only [pop] at hv
  split at hv
  · rename_i k' n hn
    rw [hn] at h1
    have e := vr_int h1
    cases hv
    exact ⟨_, by simp [execOp, ho, e, convert, run_underlying hs, run_underlying ht, Conv.intToInt], .int _ _⟩
  · cases hv
theorem ps_cis (h : OR κ ρ ρc) {o : Oper} {s t : TypeId} {j : IntKind} {x : Operand} {x' : Opd} (hx : lowOpd x = some x') (hs : P.underlying s = some (.int j)) (ht : P.underlying t = some .string) (ho : o.op = .convert s t x) :
    PSound P κ w ρ ρc o (.cis x') := by
  intro v hv
  have h1 := h _ _ hx
  simp only [pop] at hv
  split at hv
  · rename_i k' n hn
    rw [hn] at h1
    have e := vr_int h1
    cases hv
    exact ⟨_, by simp [execOp, ho, e, convert, run_underlying hs, run_underlying ht, Conv.intToString], .str _ _ rfl⟩
  · cases hv
theorem ps_cid (h : OR κ ρ ρc) {o : Oper} {s t : TypeId} {x : Operand} {x' : Opd} (hx : lowOpd x = some x') (hs : P.underlying s = some .string) (ht : P.underlying t = some .string) (ho : o.op = .convert s t x) :
    PSound P κ w ρ ρc o (.cid x') := by
  intro v hv
  have h1 := h _ _ hx
  simp only [pop] at hv
  split at hv
  · rename_i l hn
    rw [hn] at h1
    obtain ⟨s', e, hs'⟩ := vr_str h1
    cases hv
    exact ⟨_, by simp [execOp, ho, e, convert, run_underlying hs, run_underlying ht], .str _ _ hs'⟩
  · cases hv
theorem ps_mki (h : OR κ ρ ρc) {o : Oper} {t : TypeId} {d : TypeDesc} {x : Operand} {x' : Opd} (hx : lowOpd x = some x') (hd : P.underlying t = some d) (hn : ∀ ms, d ≠ .interface ms) (ho : o.op = .makeInterface t x) :
    PSound P κ w ρ ρc o (.mki t x') := by
  intro v hv
  have h1 := h _ _ hx
  simp only [pop] at hv
  cases hv
  refine ⟨.iface t (ρc x), ?_, .ifc _ _ _ h1⟩
  simp only [execOp, ho, Instr.makeInterface]
  refine run_v ?_
  simp only [Sem.run_bind, run_underlying hd, Result.andThen_ok]
  cases d <;> first | rfl | exact absurd rfl (hn _)
theorem ps_mkf (h : OR κ ρ ρc) {o : Oper} {f : Fn} {a b : Array Operand} {a' b' : List Opd} (ha : lowOpds a.toList = some a') (hb : lowOpds b.toList = some b') (ho : o.op = .makeFunc f a b) :
    PSound P κ w ρ ρc o (.mkf f a' b') := by
  intro v hv
  simp only [pop] at hv
  cases hv
  exact ⟨.func f (a.map ρc) (b.map ρc), by simp [execOp, ho, Instr.makeFunc], .fn _ _ _ _ _ (by simpa using h.list ha) (by simpa using h.list hb)⟩
theorem add_off (b o n : Nat) : (⟨b, o, none⟩ : Addr).add n = ⟨b, o + n, none⟩ := by
  unfold Addr.add; split <;> simp_all
theorem ps_fad (h : OR κ ρ ρc) {o : Oper} {s : TypeId} {f : Nat} {fs : Array Field} {fl : Field} {i : TypeInfo} {x : Operand} {x' : Opd} (hx : lowOpd x = some x') (hs : P.underlying s = some (.struct fs)) (hf : fs[f]? = some fl)
    (hi : P.info? fl.type = some i) (hz : i.size ≠ 0) (ho : o.op = .fieldAddr s x f) : PSound P κ w ρ ρc o (.fad fl.offset x') := by
  intro v hv
  have h1 := h _ _ hx
  simp only [pop] at hv
  split at hv
  · rename_i B off hB
    rw [hB] at h1
    obtain ⟨k, hk, e⟩ := vr_ptr h1
    cases hv
    refine ⟨.pointer (some ⟨k.blk, k.off + (off + fl.offset), none⟩), ?_, .ptr _ _ _ hk⟩
    simp only [execOp, ho, e, Instr.fieldAt]
    refine run_v ?_
    simp only [Sem.run_bind, run_underlying hs, Result.andThen_ok, hf, Instr.sureAddr, Sem.run_pure, fieldPlace, run_size hi, if_neg hz, add_off]
    rw [Nat.add_assoc]
  · cases hv
theorem ps_fld (h : OR κ ρ ρc) {o : Oper} {s : TypeId} {f : Nat} {fs : Array Field} {fl : Field} {i : TypeInfo} {d : TypeDesc} {x : Operand} {x' : Opd} (hx : lowOpd x = some x') (hs : P.underlying s = some (.struct fs)) (hf : fs[f]? = some fl)
    (hi : P.info? fl.type = some i) (hd : P.underlying fl.type = some d) (ho : o.op = .field s x f) : PSound P κ w ρ ρc o (.fld fl.offset i.size (aggD d) x') := by
  intro v hv
  have h1 := h _ _ hx
  simp only [pop] at hv
  split at hv
  · rename_i l hl
    rw [hl] at h1
    obtain ⟨L, e, hL⟩ := vr_agg h1
    obtain ⟨V, hV, hr⟩ := part_VR (w := w) hd hi hL hv
    refine ⟨V, ?_, hr⟩
    simp only [execOp, ho, e, Instr.field]
    refine run_v ?_
    simp only [Sem.run_bind, run_underlying hs, Result.andThen_ok, hf, asAgg, Sem.run_pure, hV]
  · cases hv
theorem ps_iad (h : OR κ ρ ρc) {o : Oper} {t e : TypeId} {f : TypeInfo} {x i : Operand} {x' i' : Opd} (hx : lowOpd x = some x') (hi : lowOpd i = some i') (ht : P.underlying t = some (.slice e)) (hf : P.info? e = some f)
    (ho : o.op = .indexAddr t x i) : PSound P κ w ρ ρc o (.iad f.size x' i') := by
  intro v hv
  have h1 := h _ _ hx
  have h2 := h _ _ hi
  simp only [pop] at hv
  split at hv
  · rename_i B off n c es k j hB hj
    rw [hB] at h1; rw [hj] at h2
    split at hv
    · rename_i hb
      cases hv
      have e2 := vr_int h2
      rcases vr_slc h1 with ⟨kk, cap, hk, hn, hs, hc, he, e1⟩ | ⟨a, hn, _, _, _⟩
      · refine ⟨.pointer (some ⟨kk.blk, kk.off + (off + j.toNat * f.size), none⟩), ?_, .ptr _ _ _ hk⟩
        simp only [execOp, ho, e1, e2, Instr.indexAt]
        refine run_v ?_
        simp only [Sem.run_bind, asIntOf, Sem.run_pure, Result.andThen_ok, run_underlying ht, hb, and_self, if_true, run_size hf, add_off]
        rw [Nat.add_assoc]
      · omega
    · cases hv
  · cases hv
theorem ps_iada (h : OR κ ρ ρc) {o : Oper} {t e : TypeId} {n : Nat} {f : TypeInfo} {x i : Operand} {x' i' : Opd} (hx : lowOpd x = some x') (hi : lowOpd i = some i') (ht : P.underlying t = some (.array n e)) (hf : P.info? e = some f)
    (ho : o.op = .indexAddr t x i) : PSound P κ w ρ ρc o (.iada n f.size x' i') := by
  intro v hv
  have h1 := h _ _ hx
  have h2 := h _ _ hi
  simp only [pop] at hv
  split at hv
  · rename_i B off k j hB hj
    rw [hB] at h1; rw [hj] at h2
    split at hv
    · rename_i hb
      cases hv
      have e2 := vr_int h2
      obtain ⟨kk, hk, e1⟩ := vr_ptr h1
      refine ⟨.pointer (some ⟨kk.blk, kk.off + (off + j.toNat * f.size), none⟩), ?_, .ptr _ _ _ hk⟩
      simp only [execOp, ho, e1, e2, Instr.indexAt, Instr.sureAddr]
      refine run_v ?_
      simp only [Sem.run_bind, asIntOf, Sem.run_pure, Result.andThen_ok, run_underlying ht, hb, and_self, if_true, run_size hf, add_off]
      rw [Nat.add_assoc]
    · cases hv
  · cases hv
theorem ps_ixs (h : OR κ ρ ρc) {o : Oper} {t : TypeId} {x i : Operand} {x' i' : Opd} (hx : lowOpd x = some x') (hi : lowOpd i = some i') (ht : P.underlying t = some .string)
    (ho : o.op = .index t x i) : PSound P κ w ρ ρc o (.ixs x' i') := by
  intro v hv
  have h1 := h _ _ hx
  have h2 := h _ _ hi
  simp only [pop] at hv
  split at hv
  · rename_i s k j hB hj
    rw [hB] at h1; rw [hj] at h2
    split at hv
    · rename_i hb
      split at hv
      · rename_i c hc
        cases hv
        have e2 := vr_int h2
        obtain ⟨S, e1, hS⟩ := vr_str h1
        have hcs : S[j.toNat]? = some c := by
          subst hS
          rw [← hc]
          simp only [getElem?_def]
          rfl
        refine ⟨.int .u8 c.toNat, ?_, .int _ _⟩
        simp only [execOp, ho, e1, e2, Instr.index]
        refine run_v ?_
        simp only [Sem.run_bind, asIntOf, Sem.run_pure, Result.andThen_ok, run_underlying ht, hb, if_true, hcs]
      · cases hv
    · cases hv
  · cases hv
theorem ps_ixa (h : OR κ ρ ρc) {o : Oper} {t e : TypeId} {n : Nat} {f : TypeInfo} {d : TypeDesc} {x i : Operand} {x' i' : Opd} (hx : lowOpd x = some x') (hi : lowOpd i = some i') (ht : P.underlying t = some (.array n e)) (hf : P.info? e = some f)
    (hd : P.underlying e = some d) (ho : o.op = .index t x i) : PSound P κ w ρ ρc o (.ixa n f.size (aggD d) x' i') := by
  intro v hv
  have h1 := h _ _ hx
  have h2 := h _ _ hi
  simp only [pop] at hv
  split at hv
  · rename_i l k j hB hj
    rw [hB] at h1; rw [hj] at h2
    split at hv
    · rename_i hb
      have e2 := vr_int h2
      obtain ⟨L, e1, hL⟩ := vr_agg h1
      obtain ⟨V, hV, hr⟩ := part_VR (w := w) hd hf hL hv
      refine ⟨V, ?_, hr⟩
      simp only [execOp, ho, e1, e2, Instr.index]
      refine run_v ?_
      simp only [Sem.run_bind, asIntOf, Sem.run_pure, Result.andThen_ok, run_underlying ht, hb, and_self, if_true, run_size hf, hV]
    · cases hv
  · cases hv
theorem ps_ext (h : OR κ ρ ρc) {o : Oper} {i : Nat} {x : Operand} {x' : Opd} (hx : lowOpd x = some x') (ho : o.op = .extract x i) : PSound P κ w ρ ρc o (.ext x' i) := by
  intro v hv
  have h1 := h _ _ hx
  simp only [pop] at hv
  split at hv
  · rename_i l hl
    rw [hl] at h1
    obtain ⟨L, e, hL⟩ := vr_tup h1
    obtain ⟨V, hV, hr⟩ := hL.get hv
    have hV' : L[i]? = some V := by simpa using hV
    refine ⟨V, ?_, hr⟩
    simp only [execOp, ho, e, Instr.extract]
    exact run_v (by simp [hV'])
  · cases hv
theorem ps_slc (h : OR κ ρ ρc) {o : Oper} {t e : TypeId} {f : TypeInfo} {x : Operand} {lo hi mx : Option Operand} {x' : Opd} {lo' hi' mx' : Option Opd} (hx : lowOpd x = some x') (hlo : lowOpt lo = some lo') (hhi : lowOpt hi = some hi')
    (hmx : lowOpt mx = some mx') (ht : P.underlying t = some (.slice e)) (hf : P.info? e = some f) (ho : o.op = .slice t x lo hi mx) : PSound P κ w ρ ρc o (.slc f.size lo' hi' mx' x') := by
  intro v hv
  have h1 := h _ _ hx
  have r1 := h.opt hlo
  have r2 := h.opt hhi
  have r3 := h.opt hmx
  have hrun : ∀ V, (Instr.slice t (ρc x) (lo.map ρc) (hi.map ρc) (mx.map ρc)).run P w = .ok V w → (execOp ρc o).run P w = .ok (.value V) w := by
    intro V hV
    simp only [execOp, ho, Instr.sliceAt]
    refine run_v ?_
    simp only [Sem.run_bind, run_underlying ht, Result.andThen_ok, hV]
  simp only [pop] at hv
  split at hv
  · rename_i B off n c es hB
    rw [hB] at h1
    split at hv
    · rename_i hes
      subst hes
      have body : ∀ (l hh : Nat) (m : Option Nat), abounds n (c.getD n) (lo'.map ρ) (hi'.map ρ) (mx'.map ρ) = some (l, hh, m) → ∀ (c' : Option Nat),
          (m = none → c' = c.map (· - l)) → (∀ x, m = some x → c' = some (x - l)) → ∃ V, (execOp ρc o).run P w = .ok (.value V) w ∧ VR κ (.slc B (off + l * f.size) (hh - l) c' f.size) V := by
        intro l hh m hb c' hc1 hc2
        rcases vr_slc h1 with ⟨kk, cap, hk, hn, hs, hc, he, e1⟩ | ⟨a, hn, hc, he, e1⟩
        · obtain ⟨m', hr, g1, g2, g3, g4, g5⟩ := abounds_sound (P := P) (w := w) (isS := true) r1 r2 r3 (cap := c.getD n) (cap' := cap) (len := n)
            (by cases c with | none => simpa using hn | some y => simp [hc y rfl]) hn hb
          have hcc : ∀ x, c' = some x → m' - l = x := by
            intro x hx
            cases m with
            | none =>
              rw [hc1 rfl] at hx
              simp only [Option.map_eq_some_iff] at hx
              obtain ⟨y, hy, rfl⟩ := hx
              have := hc y hy
              have := (g5 rfl).1
              omega
            | some y =>
              rw [hc2 y rfl] at hx
              cases hx
              have := (g4 y rfl).1
              omega
          by_cases hml : m' = l
          · refine ⟨.slice (some ⟨kk.blk, kk.off + off, none⟩) 0 0, hrun _ ?_, ?_⟩
            · simp only [Instr.slice, e1, Sem.run_bind, run_underlying ht, Result.andThen_ok, hr, run_size hf, Sem.run_pure]
              simp [hml]; omega
            · have : hh - l = 0 := by omega
              rw [this]
              refine .slcE _ _ _ _ _ (fun x hx => by have := hcc x hx; omega) (fun hcn => ?_)
              cases m with
              | none =>
                rw [hc1 rfl] at hcn
                have hcn' : c = none := by simpa using hcn
                have h5 := he hcn'
                have h6 := (g5 rfl).1
                subst h6
                exact ⟨kk, hk, by rw [← h5, hml]; omega⟩
              | some y => rw [hc2 y rfl] at hcn; cases hcn
          · refine ⟨.slice (some ⟨kk.blk, kk.off + (off + l * f.size), none⟩) (hh - l) (m' - l), hrun _ ?_, .slc _ _ _ _ _ _ _ hk (by omega) ?_ hcc ?_⟩
            · simp only [Instr.slice, e1, Sem.run_bind, run_underlying ht, Result.andThen_ok, hr, run_size hf, Sem.run_pure]
              simp [hml, add_off, Nat.add_assoc]
            · have : l * f.size + (m' - l) * f.size = m' * f.size := by rw [← Nat.add_mul]; congr 1; omega
              have : m' * f.size ≤ cap * f.size := Nat.mul_le_mul_right _ g3
              omega
            · intro hcn
              have : l * f.size + (m' - l) * f.size = m' * f.size := by rw [← Nat.add_mul]; congr 1; omega
              cases m with
              | none =>
                rw [hc1 rfl] at hcn
                have hcn' : c = none := by simpa using hcn
                have := he hcn'
                have := (g5 rfl).1
                subst this
                omega
              | some y => rw [hc2 y rfl] at hcn; cases hcn
        · subst hn
          obtain ⟨m', hr, g1, g2, g3, g4, g5⟩ := abounds_sound (P := P) (w := w) (isS := true) r1 r2 r3 (cap := c.getD 0) (cap' := 0) (len := 0)
            (by cases c with | none => simp | some y => simp [hc y rfl]) (Nat.le_refl _) hb
          have e3 : m' = 0 := by omega
          have e4 : hh = 0 := by omega
          have e5 : l = 0 := by omega
          subst e3 e4 e5
          refine ⟨.slice (some a) 0 0, hrun _ ?_, ?_⟩
          · simp only [Instr.slice, e1, Sem.run_bind, run_underlying ht, Result.andThen_ok, hr, run_size hf, Sem.run_pure]
            simp
          · refine .slcE _ _ _ _ _ (fun x hx => ?_) (fun hcn => ?_)
            · cases m with
              | none =>
                rw [hc1 rfl] at hx
                simp only [Option.map_eq_some_iff] at hx
                obtain ⟨y, hy, rfl⟩ := hx
                have := hc y hy
                omega
              | some y =>
                rw [hc2 y rfl] at hx
                cases hx
                have := (g4 y rfl).1
                omega
            · cases m with
              | none =>
                rw [hc1 rfl] at hcn
                have hcn' : c = none := by simpa using hcn
                obtain ⟨k, hk, hks⟩ := he hcn'
                exact ⟨k, hk, by omega⟩
              | some y => rw [hc2 y rfl] at hcn; cases hcn
      split at hv
      · rename_i l hh hb
        cases hv
        exact body l hh none hb _ (fun _ => rfl) (by simp)
      · rename_i l hh m hb
        cases hv
        exact body l hh (some m) hb _ (by simp) (by simp)
      · cases hv
    · cases hv
  · rename_i hB
    rw [hB] at h1
    split at hv
    · rename_i q hb
      obtain ⟨l, hh, m⟩ := q
      cases hv
      have e1 : ρc x = .slice none 0 0 := vr_nilSlc h1
      obtain ⟨m', hr, g1, g2, g3, g4, g5⟩ := abounds_sound (P := P) (w := w) (isS := true) r1 r2 r3 (cap' := 0) (Nat.le_refl _) (Nat.le_refl _) hb
      refine ⟨.slice none 0 0, hrun _ ?_, .nilSlc⟩
      simp only [Instr.slice, e1, Sem.run_bind, run_underlying ht, Result.andThen_ok, hr, run_size hf, Sem.run_pure]
      have e3 : m' = 0 := by omega
      have e4 : hh = 0 := by omega
      have e5 : l = 0 := by omega
      subst e3 e4 e5
      simp
    · cases hv
  · cases hv
end
end Go.A
end
section
namespace Go.A
section
variable {P : Program} {κ : Kap} {w : World} {ρ : Opd → AV} {ρc : Operand → Value}
theorem bytes_len (s : ByteArray) : s.data.toList.length = s.size := rfl
theorem ps_sls (h : OR κ ρ ρc) {o : Oper} {t : TypeId} {x : Operand} {lo hi : Option Operand} {x' : Opd} {lo' hi' : Option Opd} (hx : lowOpd x = some x') (hlo : lowOpt lo = some lo') (hhi : lowOpt hi = some hi')
    (ht : P.underlying t = some .string) (ho : o.op = .slice t x lo hi none) : PSound P κ w ρ ρc o (.sls lo' hi' x') := by
  intro v hv
  have h1 := h _ _ hx
  have r1 := h.opt hlo
  have r2 := h.opt hhi
  simp only [pop] at hv
  split at hv
  · rename_i s hs
    rw [hs] at h1
    obtain ⟨S, e1, hS⟩ := vr_str h1
    split at hv
    · rename_i l hh m hb
      cases hv
      have hsz : s.length = S.size := by subst hS; rfl
      rw [hsz] at hb
      obtain ⟨m', hr, g1, g2, g3, g4, g5⟩ := abounds_sound (P := P) (w := w) (isS := false) r1 r2 (mx := none) (Mx := none) trivial (cap' := S.size) (Nat.le_refl _) (Nat.le_refl _) hb
      refine ⟨.string (S.extract l hh), ?_, .str _ _ ?_⟩
      · simp only [execOp, ho, Instr.sliceAt]
        refine run_v ?_
        simp only [Sem.run_bind, run_underlying ht, Result.andThen_ok, e1, Instr.slice, Option.map_none, Option.isSome_none, Bool.false_eq_true, if_false, Sem.run_pure, hr]
      · subst hS
        simp [List.extract_eq_take_drop]
    · cases hv
  · cases hv
theorem ps_nilck (h : OR κ ρ ρc) {o : Oper} {x : Operand} {x' : Opd} (hx : lowOpd x = some x') (ho : o.op = .nilCheck x) : PSound P κ w ρ ρc o (.nilck x') := by
  intro v hv
  have h1 := h _ _ hx
  simp only [pop] at hv
  generalize hc : ρc x = V at h1
  have run : ∀ W, V = W → (match W with | .pointer none | .nilIface | .nilFunc => False | .func (.method _) _ _ => False | _ => True) → (execOp ρc o).run P w = .ok (.value V) w := by
    intro W hW hne
    simp only [execOp, ho, hc]
    subst hW
    split <;> first | rfl | exact hne.elim | (simp at hne)
  split at hv <;> cases hv
  · rename_i b off hb
    rw [hb] at h1
    obtain ⟨k, hk, rfl⟩ := vr_ptr h1
    exact ⟨_, run _ rfl trivial, h1⟩
  · rename_i f l c hb
    rw [hb] at h1
    cases h1 with
    | fn _ _ _ L C hl hc' => exact ⟨_, run _ rfl trivial, .fn _ _ _ _ _ hl hc'⟩
  · rename_i r hb
    rw [hb] at h1
    cases h1 with
    | yld _ k hk => exact ⟨_, run _ rfl trivial, .yld _ _ hk⟩
  · rename_i b off n c es hb
    rw [hb] at h1
    rcases vr_slc h1 with ⟨k, cap, _, _, _, _, _, rfl⟩ | ⟨a, _, _, _, rfl⟩
    · exact ⟨_, run _ rfl trivial, h1⟩
    · exact ⟨_, run _ rfl trivial, h1⟩
  · rename_i r hb
    rw [hb] at h1
    cases h1 with
    | map _ k hk => exact ⟨_, run _ rfl trivial, .map _ _ hk⟩
theorem run_bi {o : Oper} {b : Builtin} {args : Array Operand} {ts : Array TypeId} (ho : o.op = .call { callee := .builtin b, args := args, argTypes := ts }) :
    execOp ρc o = builtin b ts o.type (args.map fun | .const _ => true | _ => false) (args.map ρc) := by
  simp only [execOp, ho, resolve]
  rfl
theorem args1 {args : Array Operand} {x : Operand} (ha : args.toList = [x]) : args.map ρc = #[ρc x] := by
  have : args = #[x] := by apply Array.ext'; simpa using ha
  subst this; simp
theorem args2 {args : Array Operand} {x y : Operand} (ha : args.toList = [x, y]) : args.map ρc = #[ρc x, ρc y] := by
  have : args = #[x, y] := by apply Array.ext'; simpa using ha
  subst this; simp
theorem fin_len {o : Oper} {args : Array Operand} {ts : Array TypeId} {V : Value} (ho : o.op = .call { callee := .builtin .len, args := args, argTypes := ts })
    (hV : (Builtin.len_ ts o.type (args.map ρc)).run P w = .ok V w) : (execOp ρc o).run P w = .ok (.value V) w := by
  rw [run_bi ho]
  simp only [builtin]
  exact run_v hV
theorem ps_lens (h : OR κ ρ ρc) {o : Oper} {args : Array Operand} {ts : Array TypeId} {t : TypeId} {x : Operand} {x' : Opd} (ha : args.toList = [x]) (ht : ts[0]? = some t) (hx : lowOpd x = some x') (hd : P.underlying t = some .string)
    (ho : o.op = .call { callee := .builtin .len, args := args, argTypes := ts }) : PSound P κ w ρ ρc o (.lens x') := by
  intro v hv
  have h1 := h _ _ hx
  simp only [pop] at hv
  split at hv
  · rename_i s hs
    rw [hs] at h1
    obtain ⟨S, e1, hS⟩ := vr_str h1
    cases hv
    have hsz : s.length = S.size := by subst hS; rfl
    rw [hsz]
    exact ⟨.int .i64 S.size, fin_len ho (by simp [Builtin.len_, ht, args1 ha, run_underlying hd, e1, goInt]), .int _ _⟩
  · cases hv
theorem ps_lenl (h : OR κ ρ ρc) {o : Oper} {args : Array Operand} {ts : Array TypeId} {t e : TypeId} {x : Operand} {x' : Opd} (ha : args.toList = [x]) (ht : ts[0]? = some t) (hx : lowOpd x = some x') (hd : P.underlying t = some (.slice e))
    (ho : o.op = .call { callee := .builtin .len, args := args, argTypes := ts }) : PSound P κ w ρ ρc o (.lenl x') := by
  intro v hv
  have h1 := h _ _ hx
  simp only [pop] at hv
  split at hv
  · rename_i b off n c es hs
    rw [hs] at h1
    cases hv
    rcases vr_slc h1 with ⟨k, cap, _, _, _, _, _, e1⟩ | ⟨a, rfl, _, _, e1⟩
    · exact ⟨.int .i64 n, fin_len ho (by simp [Builtin.len_, ht, args1 ha, run_underlying hd, e1, goInt]), .int _ _⟩
    · exact ⟨.int .i64 0, fin_len ho (by simp [Builtin.len_, ht, args1 ha, run_underlying hd, e1, goInt]), .int _ _⟩
  · rename_i hs
    rw [hs] at h1
    cases hv
    exact ⟨.int .i64 0, fin_len ho (by simp [Builtin.len_, ht, args1 ha, run_underlying hd, vr_nilSlc h1, goInt]), .int _ _⟩
  · cases hv
theorem ps_lena {o : Oper} {args : Array Operand} {ts : Array TypeId} {t e : TypeId} {n : Nat} {x : Operand} (ha : args.toList = [x]) (ht : ts[0]? = some t) (hd : P.underlying t = some (.array n e))
    (ho : o.op = .call { callee := .builtin .len, args := args, argTypes := ts }) : PSound P κ w ρ ρc o (.lena n) := by
  intro v hv
  simp only [pop] at hv
  cases hv
  refine ⟨.int .i64 n, fin_len ho ?_, .int _ _⟩
  have e0 : (#[ρc x] : Array Value)[0]? = some (ρc x) := rfl
  simp only [Builtin.len_, ht, args1 ha, e0, Sem.run_bind, run_underlying hd, Result.andThen_ok]
  generalize ρc x = V
  cases V <;> rfl
theorem ps_mn (h : OR κ ρ ρc) {o : Oper} {args : Array Operand} {ts : Array TypeId} {x y : Operand} {x' y' : Opd} (ha : args.toList = [x, y]) (hx : lowOpd x = some x') (hy : lowOpd y = some y')
    (ho : o.op = .call { callee := .builtin .min, args := args, argTypes := ts }) : PSound P κ w ρ ρc o (.mn x' y') := by
  intro v hv
  have h1 := h _ _ hx
  have h2 := h _ _ hy
  simp only [pop] at hv
  split at hv
  · rename_i k a k' b ha' hb'
    rw [ha'] at h1; rw [hb'] at h2
    cases hv
    refine ⟨.int k (if b < a then b else a), ?_, .int _ _⟩
    rw [run_bi ho]
    simp only [builtin]
    exact run_v (by simp [Builtin.min_, args2 ha, vr_int h1, vr_int h2, Builtin.min2])
  · cases hv
theorem ps_mx (h : OR κ ρ ρc) {o : Oper} {args : Array Operand} {ts : Array TypeId} {x y : Operand} {x' y' : Opd} (ha : args.toList = [x, y]) (hx : lowOpd x = some x') (hy : lowOpd y = some y')
    (ho : o.op = .call { callee := .builtin .max, args := args, argTypes := ts }) : PSound P κ w ρ ρc o (.mx x' y') := by
  intro v hv
  have h1 := h _ _ hx
  have h2 := h _ _ hy
  simp only [pop] at hv
  split at hv
  · rename_i k a k' b ha' hb'
    rw [ha'] at h1; rw [hb'] at h2
    cases hv
    refine ⟨.int k (if b > a then b else a), ?_, .int _ _⟩
    rw [run_bi ho]
    simp only [builtin]
    exact run_v (by simp [Builtin.max_, args2 ha, vr_int h1, vr_int h2, Builtin.max2])
  · cases hv
theorem ps_tas (h : OR κ ρ ρc) {o : Oper} {xt t : TypeId} {d : TypeDesc} {z : AV} {x : Operand} {x' : Opd} (hx : lowOpd x = some x') (hd : P.underlying t = some d) (hn : ∀ ms, d ≠ .interface ms) (hz : zeroT P t = some z)
    (ho : o.op = .typeAssert x xt t true) : PSound P κ w ρ ρc o (.tas t z x') := by
  intro v hv
  have h1 := h _ _ hx
  obtain ⟨Z, hZ, hZr⟩ := zeroT_sound (w := w) (κ := κ) hz
  have go : ∀ V, (Instr.typeAssert (ρc x) xt t true).run P w = .ok V w → (execOp ρc o).run P w = .ok (.value V) w := by
    intro V hV
    simp only [execOp, ho]
    exact run_v hV
  simp only [pop] at hv
  split at hv
  · rename_i u a hu
    rw [hu] at h1
    generalize hc : ρc x = X at h1
    cases h1 with
    | ifc _ _ V hV =>
      split at hv <;> cases hv
      · rename_i hut
        subst hut
        refine ⟨.tuple #[V, .bool true], go _ ?_, .tup _ _ (.cons _ _ _ _ hV (.cons _ _ _ _ (.bool _) .nil))⟩
        rw [hc]
        simp only [Instr.typeAssert, Sem.run_bind, run_underlying hd, Result.andThen_ok]
        cases d <;> first | exact absurd rfl (hn _) | simp
      · rename_i hut
        refine ⟨.tuple #[Z, .bool false], go _ ?_, .tup _ _ (.cons _ _ _ _ hZr (.cons _ _ _ _ (.bool _) .nil))⟩
        rw [hc]
        simp only [Instr.typeAssert, Sem.run_bind, run_underlying hd, Result.andThen_ok]
        cases d <;> first | exact absurd rfl (hn _) | simp [hut, hZ]
  · rename_i hu
    rw [hu] at h1
    generalize hc : ρc x = X at h1
    cases h1
    cases hv
    refine ⟨.tuple #[Z, .bool false], go _ ?_, .tup _ _ (.cons _ _ _ _ hZr (.cons _ _ _ _ (.bool _) .nil))⟩
    rw [hc]
    simp only [Instr.typeAssert, Sem.run_bind, run_underlying hd, Result.andThen_ok]
    cases d <;> first | exact absurd rfl (hn _) | simp [hZ]
  · cases hv
end
end Go.A
end
section
namespace Go.A
section
variable {P : Program} {κ : Kap} {w : World} {ρ : Opd → AV} {ρc : Operand → Value}
theorem ps_eq2 (h : OR κ ρ ρc) {o : Oper} {neg : Bool} {t t' : TypeId} {d : TypeDesc} {x y : Operand} {a b : Opd} {p : POp} (ha : lowOpd x = some a) (hb : lowOpd y = some b) (hd : P.underlying t = some d)
    (hl : lowEq2 P neg t d x y a b = some p) (ho : o.op = .binOp (if neg then .neq else .eql) t x y t') : PSound P κ w ρ ρc o p := by
  unfold lowEq2 at hl
  split at hl
  · rename_i e he
    split at hl <;> cases hl
    rename_i hg
    refine ps_eq h ha hb hd he ?_ ho
    cases d <;> simp_all [guardOK]
  · cases hl
theorem pop_sound (h : OR κ ρ ρc) {o : Oper} {p : POp} (hl : lowP P o = some p) : PSound P κ w ρ ρc o p := by
  unfold lowP at hl
  split at hl
  · rename_i x ho
    simp only [Option.map_eq_some_iff] at hl
    obtain ⟨y, hy, rfl⟩ := hl
    exact ps_move h hy (.inl ho)
  · rename_i x ho
    simp only [Option.map_eq_some_iff] at hl
    obtain ⟨y, hy, rfl⟩ := hl
    exact ps_move h hy (.inr ho)
  · rename_i c a b ho
    split at hl <;> cases hl
    rename_i hc ha hb
    exact ps_pick h hc ha hb ho
  · rename_i t parts ho
    split at hl
    · rename_i z fs hz hu
      split at hl
      · rename_i l hfp
        simp only [Option.map_eq_some_iff] at hl
        obtain ⟨ps, hps, rfl⟩ := hl
        exact ps_build_st h hz hu hfp hps ho
      · cases hl
    · rename_i z n e hz hu
      split at hl
      · rename_i i hi
        simp only [Option.map_eq_some_iff] at hl
        obtain ⟨ps, hps, rfl⟩ := hl
        exact ps_build_arr h hz hu hi hps ho
      · cases hl
    · cases hl
  · rename_i op t x y t' ho
    split at hl
    · cases hl
      rename_i ha hb hd
      exact ps_ibin h ha hb ho
    · cases hl
      rename_i ha hb hd
      exact ps_sbin h ha hb ho
    · rename_i ha hb hd
      split at hl
      · exact ps_eq2 (neg := false) h ha hb hd hl ho
      · exact ps_eq2 (neg := true) h ha hb hd hl ho
      · cases hl
    · cases hl
  · rename_i op t x ho
    simp only [Option.map_eq_some_iff] at hl
    obtain ⟨y, hy, rfl⟩ := hl
    exact ps_un h hy ho
  · rename_i s t x ho
    split at hl <;> cases hl
    · rename_i ha hs ht; exact ps_cint h ha hs ht ho
    · rename_i ha hs ht; exact ps_cis h ha hs ht ho
    · rename_i ha hs ht; exact ps_cid h ha hs ht ho
  · rename_i t x ho
    split at hl <;> cases hl
    rename_i d hn ha hd
    exact ps_mki h ha hd (fun ms e => hn ms e) ho
  · rename_i f a b ho
    split at hl <;> cases hl
    rename_i ha hb
    exact ps_mkf h ha hb ho
  · rename_i s x f ho
    split at hl
    · rename_i ha hs
      split at hl
      · rename_i fl hf
        split at hl
        · rename_i i hi
          split at hl <;> cases hl
          exact ps_fad h ha hs hf hi (by assumption) ho
        · cases hl
      · cases hl
    · cases hl
  · rename_i t x f ho
    split at hl
    · rename_i ha hs
      split at hl
      · rename_i fl hf
        split at hl <;> cases hl
        rename_i hi hd
        exact ps_fld h ha hs hf hi hd ho
      · cases hl
    · cases hl
  · rename_i t x i ho
    split at hl
    · rename_i ha hb ht
      split at hl <;> cases hl
      rename_i hf
      exact ps_iad h ha hb ht hf ho
    · rename_i ha hb ht
      split at hl <;> cases hl
      rename_i hf
      exact ps_iada h ha hb ht hf ho
    · cases hl
  · rename_i t x i ho
    split at hl
    · cases hl
      rename_i ha hb ht
      exact ps_ixs h ha hb ht ho
    · rename_i ha hb ht
      split at hl <;> cases hl
      rename_i hf hd
      exact ps_ixa h ha hb ht hf hd ho
    · cases hl
  · rename_i x i ho
    simp only [Option.map_eq_some_iff] at hl
    obtain ⟨y, hy, rfl⟩ := hl
    exact ps_ext h hy ho
  · rename_i t x lo hi mx ho
    split at hl
    · rename_i ha h1 h2 h3 ht
      split at hl <;> cases hl
      rename_i hf
      exact ps_slc h ha h1 h2 h3 ht hf ho
    · cases hl
      rename_i ha h1 h2 h3 ht
      have : mx = none := by
        cases mx with
        | none => rfl
        | some m => simp [lowOpt] at h3
      subst this
      exact ps_sls h ha h1 h2 ht ho
    · cases hl
  · rename_i x ho
    simp only [Option.map_eq_some_iff] at hl
    obtain ⟨y, hy, rfl⟩ := hl
    exact ps_nilck h hy ho
  · rename_i x xt t ho
    split at hl <;> cases hl
    rename_i d z hn ha hd hz
    exact ps_tas h ha hd (fun ms e => hn ms e) hz ho
  · rename_i args ts ho
    split at hl
    · rename_i x t ha ht
      split at hl <;> cases hl
      · rename_i hx hd; exact ps_lens h ha ht hx hd ho
      · rename_i hx hd; exact ps_lenl h ha ht hx hd ho
      · rename_i hx hd; exact ps_lena ha ht hd ho
    · cases hl
  · rename_i args ts ho
    split at hl
    · rename_i x y ha
      split at hl <;> cases hl
      rename_i hx hy
      exact ps_mn h ha hx hy ho
    · cases hl
  · rename_i args ts ho
    split at hl
    · rename_i x y ha
      split at hl <;> cases hl
      rename_i hx hy
      exact ps_mx h ha hx hy ho
    · cases hl
  · cases hl
end
end Go.A
end
section
namespace Go.A
inductive MOp where
  | box (x : Opd)
  | zal (z : List AV)
  | bsl (n es : Nat) (zero : List AV) (parts : List (Nat × Nat × Opd))
  | load (x : Opd)
  | loadn (n : Nat) (x : Opd)
  | store (n : Nat) (a x : Opd)
  | mkm
  | mks (es bytes : Nat) (zero : List AV) (l c : Opd)
  | sla (n es : Nat) (lo hi : Option Opd) (x : Opd)
  | look (kt : EqT) (zero : AV) (ok : Bool) (m k : Opd)
  | mup (kt : EqT) (m k v : Opd)
  | men (kt : EqT) (zero : AV) (m k : Opd)
  | mst (m s v : Opd)
  | lenm (m : Opd)
  | app (es bytes : Nat) (x y : Opd)
  | cpy (es : Nat) (x y : Opd)
  | b2s (x : Opd)
  | s2b (x : Opd)
  | rng (x : Opd)
  | nxt (x : Opd)
  deriving Inhabited
def AV.allOne (l : List AV) : Bool := l.all AV.one
def bytesOf : List AV → Option (List UInt8)
  | [] => some []
  | .int .u8 n :: r => (bytesOf r).map (UInt8.ofNat n.toNat :: ·)
  | _ => none
def byteCells (s : List UInt8) : List AV := s.map fun b => .int .u8 b.toNat
/-- n copies of a row of cells. -/
def rep (z : List AV) : Nat → List AV
  | 0 => []
  | n + 1 => z ++ rep z n
/-- Values that are equal if they look equal. -/
def keq1 : AV → AV → Bool
  | .bool a, .bool b => a == b
  | .int j a, .int k b => j == k && a == b
  | .str a, .str b => a == b
  | .nilPtr, .nilPtr => true
  | .ptr a o, .ptr b p => a == b && o == p
  | _, _ => false
def keqs : List AV → List AV → Bool
  | [], [] => true
  | a :: l, b :: m => keq1 a b && keqs l m
  | _, _ => false
def keq : AV → AV → Bool
  | .agg l, .agg m => keqs l m
  | a, b => keq1 a b
theorem keq1_eq {a b : AV} (h : keq1 a b = true) : a = b := by
  cases a <;> cases b <;> simp [keq1] at h <;> simp [h]
theorem keqs_eq : ∀ {l m : List AV}, keqs l m = true → l = m
  | [], [], _ => rfl
  | a :: l, b :: m, h => by
    simp only [keqs, Bool.and_eq_true] at h
    rw [keq1_eq h.1, keqs_eq h.2]
  | [], _ :: _, h => by simp [keqs] at h
  | _ :: _, [], h => by simp [keqs] at h
theorem keq_eq {a b : AV} (h : keq a b = true) : a = b := by
  unfold keq at h
  split at h
  · rw [keqs_eq h]
  · exact keq1_eq h
mutual
def keyOK : EqT → Bool
  | .bool | .int | .str | .ptr => true
  | .st fs => keyOKs fs
  | .arr _ _ _ e => keyOK e
  | _ => false
def keyOKs : List (Nat × Nat × Bool × EqT) → Bool
  | [] => true
  | (_, _, _, e) :: fs => keyOK e && keyOKs fs
end
/-- The entry with a key: its place and value. -/
def afind (kt : EqT) (k : AV) : List Ent → Nat → Option (Option (Nat × AV))
  | [], _ => some none
  | (a, v, _) :: es, i => match aeq kt k a with
    | some true => some (some (i, v))
    | some false => afind kt k es (i + 1)
    | none => none
def entsOf (M : Mem) (m : AV) : Option (List Ent) :=
  match m with
  | .nilMap => some []
  | .map r => match M.get r with
    | some (.mp es _) => some es
    | _ => none
  | _ => none
def agoInt (n : Nat) : AV := .int .i64 n
def setKV (k v : AV) : List Ent → Nat → List Ent
  | [], _ => []
  | (_, _, b) :: es, 0 => (k, v, b) :: es
  | e :: es, i + 1 => e :: setKV k v es i
/-- The value of the entry with a stamp is set. -/
def setStamp (s : Int) (v : AV) : List Ent → Option (List Ent)
  | [] => none
  | (a, u, b) :: es => if (b : Int) == s then some ((a, v, b) :: es) else (setStamp s v es).map ((a, u, b) :: ·)
/-- What is appended: how many elements, and their cells. -/
def asrc (es : Nat) (M : Mem) (y : AV) : Option (Nat × List AV) :=
  match y with
  | .nilSlc => some (0, [])
  | .slc b o n _ es' => if es' = es then if n = 0 then some (0, []) else (M.rdn b o (n * es)).map fun l => (n, l) else none
  | .str s => if es = 1 then some (s.length, byteCells s) else none
  | _ => none
def aapp (id es bytes : Nat) (M : Mem) (x : AV) (n : Nat) (l : List AV) : Option (AV × Mem) :=
  match x with
  | .nilSlc => if n = 0 then some (.nilSlc, M) else if n < 2 ^ 40 ∧ n * bytes * 3 ≤ 2 ^ 47 then some (.slc id 0 n none es, M.set id (.cells l true)) else none
  | .slc b o k c es' =>
    if es' = es then
      if n = 0 then some (.slc b o k c es, M) else
      match M.get b with
      | some (.cells cs wr) =>
        if o + k * es ≤ cs.length ∧ (k + n) < 2 ^ 40 ∧ (k + n) * bytes * 3 ≤ 2 ^ 47 then
          match c with
          | some cap =>
            if k + n ≤ cap then (M.wrs b (o + k * es) l).map fun M' => (.slc b o (k + n) c es, M')
            else some (.slc id 0 (k + n) none es, M.set id (.cells ((cs.drop o).take (k * es) ++ l) true))
          | none =>
            if o + (k + n) * es ≤ cs.length ∧ es ≠ 0 then (M.wrs b (o + k * es) l).map fun M' => (.slc b o (k + n) c es, M')
            else if wr then some (.slc id 0 (k + n) none es, (M.del b).set id (.cells ((cs.drop o).take (k * es) ++ l) true))
            else none
        else none
      | _ => none
    else none
  | _ => none
def mop (id : Nat) (ρ : Opd → AV) (M : Mem) : MOp → Option (AV × Mem)
  | .box x => match (ρ x).cells with
    | some l => some (.ptr id 0, M.set id (.cells l true))
    | none => none
  | .zal z => some (.ptr id 0, M.set id (.cells z true))
  | .bsl n es zero parts => match afill (rep zero n) (parts.map fun (o, s, x) => (o, s, ρ x)) with
    | some l => if zero.length = es ∨ n = 0 then some (.slc id 0 n (some n) es, M.set id (.cells l true)) else none
    | none => none
  | .load x => match ρ x with
    | .ptr b o => (M.rd b o).map fun v => (v, M)
    | _ => none
  | .loadn n x => match ρ x with
    | .ptr b o => (M.rdn b o n).map fun l => (.agg l, M)
    | _ => none
  | .store n a x => match ρ a, (ρ x).cells with
    | .ptr b o, some l => if l.length = n ∧ AV.allOne l then (M.wrs b o l).map fun M' => (.junk, M') else none
    | _, _ => none
  | .mkm => some (.map id, M.set id (.mp [] 0))
  | .mks es bytes zero l c => match ρ l, ρ c with
    | .int _ n, .int _ m =>
      if 0 ≤ n ∧ n ≤ m ∧ m < 2 ^ 40 ∧ m * bytes ≤ 2 ^ 47 ∧ (zero.length = es ∨ m = 0) then some (.slc id 0 n.toNat (some m.toNat) es, M.set id (.cells (rep zero m.toNat) true)) else none
    | _, _ => none
  | .sla n es lo hi x => match ρ x with
    | .ptr b o => match M.get b, abounds n n (lo.map ρ) (hi.map ρ) none with
      | some (.cells cs _), some (l, h, _) => if o + n * es ≤ cs.length then some (.slc b (o + l * es) (h - l) (some (n - l)) es, M) else none
      | _, _ => none
    | _ => none
  | .look kt zero ok m k => if aeq kt (ρ k) (ρ k) ≠ some true then none else match entsOf M (ρ m) with
    | some es => match afind kt (ρ k) es 0 with
      | some (some (_, v)) => some (if ok then .tup [v, .bool true] else v, M)
      | some none => some (if ok then .tup [zero, .bool false] else zero, M)
      | none => none
    | none => none
  | .mup kt m k v => if aeq kt (ρ k) (ρ k) ≠ some true then none else match ρ m with
    | .map r => match M.get r with
      | some (.mp es clock) => match afind kt (ρ k) es 0 with
        | some (some (i, _)) => match es[i]? with
          | some (a, _, _) => if keq a (ρ k) then some (.junk, M.set r (.mp (setKV (ρ k) (ρ v) es i) clock)) else none
          | none => none
        | some none => some (.junk, M.set r (.mp (es ++ [(ρ k, ρ v, clock)]) (clock + 1)))
        | none => none
      | _ => none
    | _ => none
  | .men kt zero m k => if aeq kt (ρ k) (ρ k) ≠ some true then none else match ρ m with
    | .map r => match M.get r with
      | some (.mp es clock) => match afind kt (ρ k) es 0 with
        | some (some (i, v)) => match es[i]? with
          | some (a, _, b) => if keq a (ρ k) then some (.tup [v, agoInt b], M) else none
          | none => none
        | some none => some (.tup [zero, agoInt clock], M.set r (.mp (es ++ [(ρ k, zero, clock)]) (clock + 1)))
        | none => none
      | _ => none
    | _ => none
  | .mst m s v => match ρ m, ρ s with
    | .map r, .int _ n => match M.get r with
      | some (.mp es clock) => match setStamp n (ρ v) es with
        | some es' => some (.junk, M.set r (.mp es' clock))
        | none => none
      | _ => none
    | _, _ => none
  | .lenm m => match entsOf M (ρ m) with
    | some es => some (agoInt es.length, M)
    | none => none
  | .app es bytes x y => match asrc es M (ρ y) with
    | some (n, l) => if AV.allOne l ∧ l.length = n * es then aapp id es bytes M (ρ x) n l else none
    | none => none
  | .cpy es x y =>
    match ρ x with
    | .nilSlc => match ρ y with
      | .nilSlc | .slc .. | .str _ => some (agoInt 0, M)
      | _ => none
    | .slc b o k _ es' =>
      if es' = es then
        match ρ y with
        | .nilSlc => some (agoInt 0, M)
        | .slc b' o' n _ es'' =>
          if es'' = es then
            if min n k = 0 then some (agoInt 0, M) else
            match M.rdn b' o' (min n k * es) with
            | some l => if AV.allOne l then (M.wrs b o l).map fun M' => (agoInt (min n k), M') else none
            | none => none
          else none
        | .str s => if es = 1 then if min s.length k = 0 then some (agoInt 0, M) else (M.wrs b o (byteCells (s.take (min s.length k)))).map fun M' => (agoInt (min s.length k), M') else none
        | _ => none
      else none
    | _ => none
  | .b2s x => match ρ x with
    | .nilSlc => some (.str [], M)
    | .slc b o n _ es => if es = 1 then if n = 0 then some (.str [], M) else match M.rdn b o n with
      | some l => (bytesOf l).map fun s => (.str s, M)
      | none => none
      else none
    | _ => none
  | .s2b x => match ρ x with
    | .str s => if s.length < 2 ^ 40 then some (.slc id 0 s.length none 1, M.set id (.cells (byteCells s) true)) else none
    | _ => none
  | .rng x => match ρ x with
    | .str s => some (.ptr id 0, M.set id (.siter s 0))
    | _ => none
  | .nxt x => match ρ x with
    | .ptr r 0 => match M.get r with
      | some (.siter s pos) =>
        if pos < s.length then
          let c := Utf8.decode ⟨s.toArray⟩ pos
          some (.tup [.bool true, agoInt pos, .int .i32 c.1], M.set r (.siter s (pos + c.2)))
        else some (.tup [.bool false], M)
      | _ => none
    | _ => none
end Go.A
end
