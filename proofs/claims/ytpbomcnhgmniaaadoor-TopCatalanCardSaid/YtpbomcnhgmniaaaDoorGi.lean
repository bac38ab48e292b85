/- Calls, regions, functions: part 3. -/
import Derived.Test.YtpbomcnhgmniaaaDoorGh
section
namespace Go.A
section
variable {P : Program}
theorem calls_in {rd : Option Nat} {m : Nat} {f : FuncId} {V : Array Value} {w : World} {R : Ending → World → Prop} (h : Calls P f V w R) : CallsIn (FW rd) m P f V w R := by
  have := (callsIn_wide (n := m)).2 h
  exact this
theorem round_in {rd : Option Nat} {l : Nat} {f : FuncId} {T : Array Value} {x y : Code} {w : World} {R : Ending → World → Prop} (h : RoundIn (FW none) 0 P l f T x y w R) : RoundIn (FW rd) 0 P l f T x y w R := h
theorem run_call {o : Oper} {ρc : Operand → Value} {f : Operand} {args : Array Operand} {ts : Array TypeId} {w : World} {d : Deferred} (ho : o.op = .call { callee := .value f, args := args, argTypes := ts })
    (hd : (Deferred.ofValue (ρc f) (args.map ρc)).run P w = .ok d w) : (execOp ρc o).run P w = (invoke d.target d.args).run P w := by
  simp only [execOp, ho, resolve, Sem.run_bind, hd, Result.andThen_ok]
theorem lowOp_cases {o : Oper} {q : LOp} (h : lowOp P o = some q) :
    (∃ p, q = .p p ∧ lowP P o = some p) ∨ (∃ m, q = .m m ∧ lowM P o = some m) ∨
    (∃ f args ts g l, o.op = .call { callee := .value f, args := args, argTypes := ts } ∧ lowOpd f = some g ∧ lowOpds args.toList = some l ∧ q = .call g l) ∨
    (∃ x y, o.op = .panic x ∧ lowOpd x = some y ∧ q = .panic y) ∨
    (∃ f args ts g l, o.op = .defer { callee := .value f, args := args, argTypes := ts } ∧ lowOpd f = some g ∧ lowOpds args.toList = some l ∧ q = .defer g l) := by
  unfold lowOp at h
  split at h
  · rename_i p hp; cases h; exact .inl ⟨p, rfl, hp⟩
  · split at h
    · rename_i m hm; cases h; exact .inr (.inl ⟨m, rfl, hm⟩)
    · split at h
      · rename_i f args ts ho
        split at h <;> cases h
        rename_i hf ha
        exact .inr (.inr (.inl ⟨f, args, ts, _, _, ho, hf, ha, rfl⟩))
      · rename_i x ho
        simp only [Option.map_eq_some_iff] at h
        obtain ⟨y, hy, rfl⟩ := h
        exact .inr (.inr (.inr (.inl ⟨x, y, ho, hy, rfl⟩)))
      · rename_i f args ts ho
        split at h <;> cases h
        rename_i hf ha
        exact .inr (.inr (.inr (.inr ⟨f, args, ts, _, _, ho, hf, ha, rfl⟩)))
      · cases h
theorem lowP_nodefer {o : Oper} {p : POp} (h : lowP P o = some p) (c : Call) : o.op ≠ .defer c := by
  intro e; unfold lowP at h; rw [e] at h; cases h
theorem lowM_nodefer {o : Oper} {p : MOp} (h : lowM P o = some p) (c : Call) : o.op ≠ .defer c := by
  intro e; unfold lowM at h; rw [e] at h; cases h
theorem StR.mono {κ κ' : Kap} {N : Nat} {s : St} {a : Act} {w w' : World} {M' : Mem} (h : StR κ N s a w) (hle : κ.le κ') (hr : Rel κ' M' w') : StR κ' N { s with mem := M' } a w' :=
  ⟨hr, h.size, h.regs.mono hle, h.dfr.mono fun _ _ => DefR.mono hle⟩
/-- What one operation is to lead to. -/
def OpGoal (P : Program) (rd : Option Nat) (ops : Array Oper) (o : Oper) (a : Act) (w : World) (Kc : Act → World → Prop) (Qc : Exit → Act → World → Prop) : Prop :=
  if Region.wanted o (yielded ops a.tmps) then o.wpIn (FW rd) 0 P a w Kc Qc else (∀ f, o.about P w a.eval = some f → (FW rd).fn f) ∧ Kc (a.put o.dst undef) w
/-- A panic out of a region. -/
def PanicAt (κ : Kap) (M : Mem) (w : World) (N : Nat) (Qp : AV → St → Prop) (chain : List PanicEntry) (a : Act) (w' : World) : Prop :=
  ∃ κ' s' v V, Qp v s' ∧ chain = [{ v := V, recovered := false }] ∧ VR κ' v V ∧ StR κ' N s' a w' ∧ Mv κ M w κ' s'.mem w'
theorem aop1_sound {κ : Kap} {N base i : Nat} {s : St} {a : Act} {w : World} {rd : Option Nat} {ops : Array Oper} {o : Oper} {lo : LOper} {K : St → Prop} {Qp : AV → St → Prop} (hl : lowO P N ops o = some lo)
    (hdst : ∀ (j t : Nat), (ops[j]?).bind Oper.dst = some t → t < N) (h : StR κ N s a w) (hid : lo.noid = true ∨ base + i < s.mem.next) (hk : lo.noid = true ∨ κ (base + i) = none) (hrd : rd = none ∨ ∀ f l, lo.op ≠ .defer f l)
    {Kc : Act → World → Prop} {Qc : Exit → Act → World → Prop} (hA : aop1 P base Qp i lo K s) (hK : ∀ a' w', After κ s.mem w (base + i) lo.noid N K a' w' → Kc a' w')
    (hQ : ∀ chain w', PanicAt κ s.mem w N Qp chain a w' → Qc (.panic chain) a w') : OpGoal P rd ops o a w Kc Qc := by
  unfold lowO at hl
  split at hl
  case h_2 => cases hl
  rename_i q hq
  split at hl
  case isFalse => cases hl
  rename_i hdN
  cases hl
  have hd : ∀ t, o.dst = some t → t < N := by
    intro t ht; rw [ht] at hdN; simpa [dstOK] using hdN
  have hor := or_of h
  unfold aop1 at hA
  simp only at hA
  unfold OpGoal
  split at hA
  · exact hA.elim
  · rename_i hw
    have hwt := yielded_sound h trivial ops o hw hdst
    rw [hwt]
    simp only [Bool.false_eq_true, if_false]
    exact ⟨fun _ _ => trivial, hK _ _ ⟨κ, _, hA, h.put hd (.tup _ _ .nil), by cases o.dst <;> exact Step.refl h.rel, fun _ _ _ => rfl, by cases o.dst <;> exact fun _ _ _ hh => hh⟩⟩
  · rename_i hw
    have hwt := yielded_sound h trivial ops o hw hdst
    rw [hwt]
    simp only [if_true]
    refine ⟨fun _ _ => trivial, ?_⟩
    show o.uponIn (FW rd) 0 P a Kc Qc ((o.semAt rd a.eval).run P w)
    rcases lowOp_cases hq with ⟨p, rfl, hp⟩ | ⟨m, rfl, hm⟩ | ⟨f, args, ts, g, l, ho, hf, ha, rfl⟩ | ⟨x, y, ho, hx, rfl⟩ | ⟨f, args, ts, g, l, ho, hf, ha, rfl⟩
    · rw [semAt_of (.inr (lowP_nodefer hp))]
      simp only at hA
      split at hA
      · rename_i v hv
        obtain ⟨V, hrun, hvr⟩ := pop_sound (w := w) hor hp v hv
        rw [hrun, Oper.uponIn_value]
        exact hK _ _ ⟨κ, _, hA, h.put hd hvr, by cases o.dst <;> exact Step.refl h.rel, fun _ _ _ => rfl, by cases o.dst <;> exact fun _ _ _ hh => hh⟩
      · exact hA.elim
    · rw [semAt_of (.inr (lowM_nodefer hm))]
      simp only at hA
      split at hA
      · rename_i v M' hv
        obtain ⟨κ', V, w', hran, hvr, st, hkeep⟩ := mop_sound (w := w) (M := s.mem) (id := base + i) hor hm v M' hv h.rel hid hk
        have aft : After κ s.mem w (base + i) m.noid N K (a.put o.dst V) w' :=
          ⟨κ', _, hA, (h.mono st.own.le st.rel).put hd hvr, by cases o.dst <;> exact st, hkeep, by cases o.dst <;> exact fun B _ hB hn => mop_hole hv B hB hn⟩
        rcases hran with hran | ⟨hran, rfl, _⟩
        · rw [hran, Oper.uponIn_value]; exact hK _ _ aft
        · rw [hran, Oper.uponIn_skip]; exact hK _ _ aft
      · exact hA.elim
    · rw [semAt_of (.inr (fun c e => by rw [ho] at e; cases e))]
      simp only at hA
      obtain ⟨d, hd1, hd2⟩ := hA κ w (a.eval f) (args.map a.eval) h.rel (hor f g hf) (by simpa using hor.list ha)
      rw [run_call ho hd1]
      have after : ∀ V w', Post κ s.mem w (fun out M' => match out with
          | .ret v => K (St.put { s with mem := M' } o.dst v)
          | .panic v => Qp v { s with mem := M' }) (.returned V) w' → Kc (a.put o.dst V) w' := by
        rintro V w' ⟨κ', out, M', hq, hor', mv⟩
        cases out with
        | ret v => exact hK _ _ ⟨κ', _, hq, (h.mono mv.st.own.le mv.st.rel).put hd hor', by cases o.dst <;> exact mv.st, fun B hB _ => mv.keep.kap B hB, by cases o.dst <;> exact fun B hB _ hn => mv.keep.hole B hB hn⟩
        | panic v => exact hor'.elim
      have panics : ∀ chain w', Post κ s.mem w (fun out M' => match out with
          | .ret v => K (St.put { s with mem := M' } o.dst v)
          | .panic v => Qp v { s with mem := M' }) (.panicked chain) w' → Qc (.panic chain) a w' := by
        rintro chain w' ⟨κ', out, M', hq, hor', mv⟩
        cases out with
        | ret v => exact hor'.elim
        | panic v =>
          obtain ⟨V, hc, hv⟩ := hor'
          exact hQ _ _ ⟨κ', _, v, V, hq, hc, hv, h.mono mv.st.own.le mv.st.rel, mv⟩
      unfold InvR at hd2
      split at hd2
      · rename_i g' A w₁ hrun
        obtain ⟨rfl, hcalls⟩ := hd2
        rw [hrun, Oper.uponIn_enter]
        refine ⟨fun hh => by simp [Fence.wide] at hh, calls_in (hcalls.mono ?_)⟩
        intro e w' hp
        cases e with
        | returned V => exact after V w' hp
        | panicked chain => exact panics chain w' hp
        | outgrown => obtain ⟨κ', out, M', _, hx, _⟩ := hp; cases out <;> exact hx.elim
      · rename_i l' fn' tm x' y' w₁ hrun
        obtain ⟨rfl, hround⟩ := hd2
        rw [hrun, Oper.uponIn_round]
        refine ⟨fun hh => by simp [Fence.wide] at hh, round_in (hround.mono ?_)⟩
        intro e w' hp
        cases e with
        | returned V => exact after V w' hp
        | panicked chain => exact panics chain w' hp
        | outgrown => obtain ⟨κ', out, M', _, hx, _⟩ := hp; cases out <;> exact hx.elim
      · rename_i V w₁ hrun
        rw [hrun, Oper.uponIn_value]
        exact after V w₁ hd2
      · exact hd2.elim
    · rw [semAt_of (.inr (fun c e => by rw [ho] at e; cases e))]
      simp only at hA
      have hv : VR κ (y.ev s.regs) (a.eval x) := hor x y hx
      split at hA
      · rename_i t v hvx
        rw [hvx] at hv
        generalize hxc : a.eval x = X at hv
        cases hv with
        | ifc _ _ V hV =>
          have hrun : (execOp a.eval o).run P w = .halt (.panic (.iface t V)) w := by
            simp [execOp, ho, hxc, Instr.panic]
          rw [hrun, Oper.uponIn_panic]
          exact hQ _ _ ⟨κ, s, _, _, hA, rfl, .ifc _ _ _ hV, h, Mv.refl h.rel⟩
      · exact hA.elim
    · simp only at hA
      rcases hrd with rfl | hrd
      case inr => exact absurd rfl (hrd g l)
      rw [semAt_of (.inl rfl)]
      have hv : VR κ (g.ev s.regs) (a.eval f) := hor f g hf
      split at hA
      · rename_i g' l' c' hvx
        rw [hvx] at hv
        generalize hxc : a.eval f = X at hv
        cases hv with
        | fn _ _ _ L C hL hC =>
          have hrun : (execOp a.eval o).run P w = .ok (.defer { target := .fn (.func g') C, args := L ++ args.map a.eval }) w := by
            simp [execOp, ho, hxc, resolve, Deferred.ofValue]
          rw [hrun, Oper.uponIn_defer]
          have hs : StR κ N { s with dfr := .call (.fn (.func g') l' c') (l.map (fun x => x.ev s.regs)) :: s.dfr } { a with defers := { target := .fn (.func g') C, args := L ++ args.map a.eval } :: a.defers } w :=
            ⟨h.rel, h.size, h.regs, .cons (.call _ _ _ _ _ _ hC (by simpa using hL.append (hor.list ha))) h.dfr⟩
          exact hK _ _ ⟨κ, _, hA, hs.put hd (.tup _ _ .nil), by cases o.dst <;> exact Step.refl h.rel, fun _ _ _ => rfl, by cases o.dst <;> exact fun _ _ _ hh => hh⟩
      · exact hA.elim
end
end Go.A
end
