/- Calls, regions, functions: part 11. -/
import Derived.Test.YtpbomcnhgmniaaaDoorGp
section
namespace Go.A
section
variable {P : Program}
theorem InvR.map {κ κ₂ : Kap} {M M₂ : Mem} {w : World} {Q Q₂ : AOut → Mem → Prop} {r : Result Next} (hp : ∀ e w', Post κ M w Q e w' → Post κ₂ M₂ w Q₂ e w') (h : InvR P κ M w Q r) : InvR P κ₂ M₂ w Q₂ r := by
  unfold InvR at h ⊢
  split at h
  · exact ⟨h.1, h.2.mono hp⟩
  · exact ⟨h.1, h.2.mono hp⟩
  · exact hp _ _ h
  · exact h.elim
/-- A call comes to something. -/
theorem CallV.gives {f : AV} {args : List AV} {M : Mem} {Q : AOut → Mem → Prop} (h : CallV P f args M Q) {κ : Kap} {w : World} {Vf : Value} {V : Array Value} (hr : Rel κ M w) (hf : VR κ f Vf) (hv : VRs κ args V.toList) : ∃ out M', Q out M' := by
  obtain ⟨d, _, h2⟩ := h κ w Vf V hr hf hv
  unfold InvR at h2
  split at h2
  · obtain ⟨e, w', fr, ⟨κ', out, M', hq, _⟩, _⟩ := h2.2 []
    exact ⟨out, M', hq⟩
  · obtain ⟨e, w', ⟨κ', out, M', hq, _⟩, _⟩ := h2.2.2 default [] (fun d hd => by simp [Fence.wide] at hd)
    exact ⟨out, M', hq⟩
  · obtain ⟨κ', out, M', hq, _⟩ := h2
    exact ⟨out, M', hq⟩
  · exact h2.elim
theorem CallV.keep {f : AV} {args : List AV} {M : Mem} {Q : AOut → Mem → Prop} (h : CallV P f args M Q) :
    CallV P f args M (fun out M' => Q out M' ∧ (∀ B, B < M.next → M.get B = none → M'.get B = none) ∧ M.next ≤ M'.next) := by
  intro κ w Vf V hr hf hv
  obtain ⟨d, h1, h2⟩ := h κ w Vf V hr hf hv
  refine ⟨d, h1, h2.map ?_⟩
  rintro e w' ⟨κ', out, M', hq, ho, mv⟩
  exact ⟨κ', out, M', ⟨hq, mv.keep.hole, mv.st.own.next⟩, ho, mv⟩
theorem CallV.frame {f : AV} {args : List AV} {M : Mem} {Q : AOut → Mem → Prop} (h : CallV P f args M Q) {j : Nat} {ob : AObj} (hj : M.get j = none) (hjn : j < M.next) (hw : ob.wr = true) :
    CallV P f args (M.set j ob) (fun out M' => ∃ M₁, Q out M₁ ∧ M' = M₁.set j ob ∧ M₁.get j = none) := by
  intro κ w Vf V hr hf hv
  have hdel : (M.set j ob).del j = M := by
    unfold Mem.set Mem.del
    congr 1
    funext c
    by_cases e : c = j
    · subst e; simp [hj]
    · simp [e]
  have hr0 : Rel κ M w := by have := (hr.forget j).rel; rwa [hdel] at this
  obtain ⟨d, h1, h2⟩ := h κ w Vf V hr0 hf hv
  refine ⟨d, h1, h2.map ?_⟩
  rintro e w' ⟨κ', out, M₁, hq, ho, mv⟩
  have hj1 : M₁.get j = none := mv.keep.hole j hjn hj
  obtain ⟨k, hk, hO⟩ := hr.obj j ob (Mem.set_same _ _ _)
  have hk' : κ' j = some k := by rw [mv.keep.kap j hjn]; exact hk
  have hkb := hr.inb j k hk
  have hne : ∀ {B : Nat} {x : AObj}, M.get B = some x → B ≠ j := by
    intro B x hB e; subst e; rw [hj] at hB; cases hB
  have hne1 : ∀ {B : Nat} {x : AObj}, M₁.get B = some x → B ≠ j := by
    intro B x hB e; subst e; rw [hj1] at hB; cases hB
  have hget : ∀ {B : Nat} {x : AObj}, M.get B = some x → (M.set j ob).get B = some x := fun hB => by rw [Mem.set_ne _ _ (hne hB)]; exact hB
  -- nothing else lies in block k
  have apart : ∀ {B : Nat} {x : AObj} {kB : K}, M₁.get B = some x → κ' B = some kB → kB.blk ≠ k.blk := by
    intro B x kB hB hkB e
    obtain ⟨B₀, o₀, k₀, b1, b2, b3, b4⟩ := mv.st.own.own B x kB hB hkB (by omega)
    have := hr.sep j B₀ ob o₀ k k₀ (Mem.set_same _ _ _) hw (hget b1) hk b3 (by omega)
    exact hne b1 this.symm
  have hheap : w'.heap[k.blk]? = w.heap[k.blk]? := by
    refine mv.st.fr.block k.blk hkb ?_
    intro B x kB hB hwx hkB e
    have := hr.sep j B ob x k kB (Mem.set_same _ _ _) hw (hget hB) hk hkB e.symm
    exact hne hB this.symm
  refine ⟨κ', out, M₁.set j ob, ⟨M₁, hq, rfl, hj1⟩, ho, ⟨⟨⟨?_, ?_, mv.st.rel.fresh, mv.st.rel.inb⟩, ⟨mv.st.own.le, mv.st.own.next, ?_⟩, ⟨mv.st.fr.os, mv.st.fr.tape, mv.st.fr.output, mv.st.fr.size, ?_⟩⟩, ⟨mv.keep.kap, ?_⟩⟩⟩
  · intro B x hB
    rw [Mem.set_get] at hB
    split at hB
    · rename_i e; subst e; cases hB
      exact ⟨k, hk', (hO.heap hheap).mono mv.st.own.le⟩
    · exact mv.st.rel.obj B x hB
  · intro B B' x x' kB kB' g1 g2 g3 g4 g5 g6
    rw [Mem.set_get] at g1 g3
    split at g1 <;> split at g3
    · rename_i e e'; rw [e, e']
    · rename_i e e'
      subst e
      rw [hk'] at g4; cases g4
      exact absurd g6.symm (apart g3 g5)
    · rename_i e e'
      subst e'
      rw [hk'] at g5; cases g5
      exact absurd g6 (apart g1 g4)
    · exact mv.st.rel.sep B B' x x' kB kB' g1 g2 g3 g4 g5 g6
  · intro B x kB g1 g3 g4
    rw [Mem.set_get] at g1
    split at g1
    · rename_i e; subst e; cases g1
      rw [hk'] at g3; cases g3
      exact ⟨B, ob, k, Mem.set_same _ _ _, fun hh => hh, hk, rfl⟩
    · obtain ⟨B₀, o₀, k₀, b1, b2, b3, b4⟩ := mv.st.own.own B x kB g1 g3 g4
      exact ⟨B₀, o₀, k₀, hget b1, b2, b3, b4⟩
  · intro c hc hn
    exact mv.st.fr.block c hc fun B x kB g1 g2 g3 => hn B x kB (hget g1) g2 g3
  · intro B hB hn
    have hBj : B ≠ j := by rintro rfl; simp at hn
    rw [Mem.set_ne _ _ hBj] at hn ⊢
    exact mv.keep.hole B hB hn
theorem aopD1_le {R S : Nat → Stab} {ν : Nat → Nat} {i : Nat} {o : LOper} {s : St} {Qp : AV → St → Prop} {K : St → Prop} (hc : o.cls ≤ 3) : aopD1 P R S ν Qp i o K s =
    (match detv (R i) (ν i) o s.regs s.mem with
    | some (v, M') => (o.cls = 2 → Holds (S i) M') ∧ K (St.put { s with mem := M' } o.dst v)
    | none => False) := by
  unfold aopD1; rw [if_pos hc]; rfl
theorem aopD1_call {R S : Nat → Stab} {ν : Nat → Nat} {i : Nat} {o : LOper} {s : St} {Qp : AV → St → Prop} {K : St → Prop} (hc : o.cls = 4) : aopD1 P R S ν Qp i o K s = aop1 P (ν i) Qp 0 o (fun s' => Holds (S i) s'.mem ∧ K s') s := by
  unfold aopD1; rw [if_neg (by omega), if_pos hc]
/-- Two operations of which one may call. -/
theorem swapD {R S : Nat → Stab} {ν : Nat → Nat} {ix iy : Nat} {x y : LOper} {s : St} {Qp : AV → St → Prop} {K : St → Prop} (hi : indep x y = true) (hne : ν ix ≠ ν iy) (hfree : y.noid = true ∨ s.mem.get (ν iy) = none) (hnx : y.noid = true ∨ ν iy < s.mem.next) (hadr : x.cls = 3 → avoids y s.regs (ν ix))
    (hQp : ∀ v s d u, Qp v (St.put s d u) → Qp v s)
    (hsure : x.cls = 4 → y.cls = 3 → ∃ v M', detv (R iy) (ν iy) y s.regs s.mem = some (v, M'))
    (hnp : (∀ v s', ¬ Qp v s') ∨ ¬ (x.cls = 4 ∧ y.cls = 3)) (h : aopD1 P R S ν Qp ix x (aopD1 P R S ν Qp iy y K) s) : aopD1 P R S ν Qp iy y (aopD1 P R S ν Qp ix x K) s := by
  have hi' := hi
  simp only [indep, Bool.and_eq_true, Bool.or_eq_true, beq_iff_eq, decide_eq_true_eq] at hi'
  obtain ⟨⟨⟨⟨⟨g1, g2⟩, g3⟩, g4⟩, g5⟩, g6⟩ := hi'
  have g6' : x.cls = 0 ∨ (y.cls = 0 ∧ x.cls ≤ 3) ∨ (x.cls = 1 ∧ y.cls = 1) ∨ (y.cls = 3 ∧ 1 ≤ x.cls) ∨ (x.cls = 3 ∧ y.cls = 1) := by
    rcases g6 with (((g6 | g6) | g6) | g6) | ⟨g6, g7⟩
    · exact .inl g6
    · exact .inr (.inl g6)
    · exact .inr (.inr (.inl g6))
    · exact .inr (.inr (.inr (.inl g6)))
    · rw [Option.isSome_iff_exists] at g7
      obtain ⟨t, ht⟩ := g7
      exact .inr (.inr (.inr (.inr ⟨g6, ldT_cls ht⟩)))
  by_cases hx : x.cls ≤ 3
  · by_cases hy : y.cls ≤ 3
    · -- neither calls
      rw [aopD1_le hx] at h
      split at h
      case h_2 => exact h.elim
      rename_i u M₁ h1
      obtain ⟨hH1, h⟩ := h
      rw [aopD1_le hy] at h
      simp only [put_mem] at h
      split at h
      case h_2 => exact h.elim
      rename_i v M₂ h2
      obtain ⟨hH2, h⟩ := h
      obtain ⟨M₃, q1, q2, q3, q4⟩ := swap_det hi hx hy hne hfree hadr h1 hH1 h2 hH2
      rw [aopD1_le hy, q1]
      refine ⟨q2, ?_⟩
      rw [aopD1_le hx]
      simp only [put_mem]
      rw [q3]
      refine ⟨q4, ?_⟩
      rw [put_setmem] at h ⊢
      have := put_comm ({ s with mem := M₂ } : St) g3 u v
      rw [this] at h
      exact h
    · -- x computes, y calls
      have hy4 : y.cls = 4 := by omega
      have hx0 : x.cls = 0 := by omega
      rw [aopD1_le hx] at h
      split at h
      case h_2 => exact h.elim
      rename_i u M₁ h1
      obtain ⟨_, h⟩ := h
      obtain ⟨rfl, hall⟩ := detv_pure hx0 h1
      rw [aopD1_call hy4] at h ⊢
      have hsm : ({ s with mem := s.mem } : St) = s := rfl
      rw [hsm] at h
      have again : ∀ (M' : Mem) (r : AV), K (St.put { (s.put x.dst u) with mem := M' } y.dst r) → aopD1 P R S ν Qp ix x K (St.put { s with mem := M' } y.dst r) := by
        intro M' r hk
        rw [aopD1_le hx]
        simp only [put_mem]
        rw [detv_put (s := { s with mem := M' }) g2, hall M']
        refine ⟨fun hh => by omega, ?_⟩
        rw [put_setmem] at hk ⊢
        rw [put_comm _ g3] at hk
        exact hk
      unfold aop1 at h ⊢
      rw [wanted_put g1] at h
      have he := ev_put (v := u) (s := s) g1
      split at h
      · exact h.elim
      · rename_i hw
        rw [hw]
        refine ⟨by simpa [put_mem] using h.1, ?_⟩
        have := again s.mem (.tup []) (by rw [put_setmem]; exact h.2)
        exact this
      · rename_i hw
        rw [hw]
        cases hop : y.op with
        | call f args =>
          rw [hop] at h he
          simp only at h ⊢
          have e1 : f.ev (s.put x.dst u).regs = f.ev s.regs := he f (by simp [LOp.opds])
          have e2 : (args.map fun z => z.ev (s.put x.dst u).regs) = args.map fun z => z.ev s.regs := List.map_congr_left fun z hz => he z (by simp [LOp.opds, hz])
          rw [e1, e2, put_mem] at h
          refine h.mono ?_
          intro out M' hout
          cases out with
          | ret r => exact ⟨by simpa [put_mem] using hout.1, again M' r hout.2⟩
          | panic v =>
            simp only at hout ⊢
            rw [put_setmem] at hout
            exact hQp v _ _ _ hout
        | _ => unfold LOper.cls at hy4; rw [hop] at hy4; first | (simp at hy4; done) | (rename_i q; cases q <;> simp [MOp.cls] at hy4)
  · -- x calls, y makes
    have hx4 : x.cls = 4 := by omega
    have hy3 : y.cls = 3 := by omega
    have hy : y.cls ≤ 3 := by omega
    have hnp' : ∀ v s', ¬ Qp v s' := by
      rcases hnp with hnp | hnp
      · exact hnp
      · exact absurd ⟨hx4, hy3⟩ hnp
    rw [aopD1_call hx4] at h
    unfold aop1 at h
    split at h
    · exact h.elim
    · -- the call is not made
      rename_i hw
      obtain ⟨hH', h⟩ := h
      rw [put_mem] at hH'
      rw [aopD1_le hy] at h
      simp only [put_mem] at h
      rw [detv_put g1] at h
      split at h
      case h_2 => exact h.elim
      rename_i v M₂ h2
      rw [aopD1_le hy, h2]
      refine ⟨fun hh => by omega, ?_⟩
      have hHM : Holds (S ix) M₂ := by
        rcases detv_makes hy3 h2 with ⟨rfl, _⟩ | ⟨ob, _, rfl, _⟩
        · exact hH'
        · exact hH'.far (free3 hy3 hfree)
      rw [aopD1_call hx4]
      unfold aop1
      rw [wanted_put (s := { s with mem := M₂ }) g2, hw]
      refine ⟨by simpa [put_mem] using hHM, ?_⟩
      have := h.2
      rw [put_setmem, put_comm _ g3] at this
      exact this
    · rename_i hw
      cases hop : x.op with
      | call f args =>
        rw [hop] at h
        simp only at h
        obtain ⟨v, M₂, hdy⟩ := hsure hx4 hy3
        · have goal : ∀ (M₃ : Mem), detv (R iy) (ν iy) y s.regs s.mem = some (v, M₃) → (∀ Mx : Mem, ∃ My, detv (R iy) (ν iy) y s.regs Mx = some (v, My)) →
              CallV P (f.ev s.regs) (args.map fun z => z.ev s.regs) M₃ (fun out M' => match out with
                | .ret r => Holds (S ix) M' ∧ K (St.put (St.put { s with mem := M' } y.dst v) x.dst r)
                | .panic v => Qp v { s with mem := M' }) →
              aopD1 P R S ν Qp iy y (aopD1 P R S ν Qp ix x K) s := by
            intro M₃ hd _ hc
            rw [aopD1_le hy, hd]
            refine ⟨fun hh => by omega, ?_⟩
            rw [aopD1_call hx4]
            unfold aop1
            rw [wanted_put (s := { s with mem := M₃ }) g2, hw]
            simp only [hop]
            have he := ev_put (v := v) (s := ({ s with mem := M₃ } : St)) g2
            rw [hop] at he
            have e1 : f.ev (St.put { s with mem := M₃ } y.dst v).regs = f.ev s.regs := he f (by simp [LOp.opds])
            have e2 : (args.map fun z => z.ev (St.put { s with mem := M₃ } y.dst v).regs) = args.map fun z => z.ev s.regs := List.map_congr_left fun z hz => he z (by simp [LOp.opds, hz])
            rw [e1, e2, put_mem]
            refine hc.mono ?_
            intro out M'' ho
            cases out with
            | ret r => exact ⟨by simpa [put_mem] using ho.1, by rw [put_setmem]; exact ho.2⟩
            | panic v => exact absurd ho (hnp' _ _)
          rcases detv_makes hy3 hdy with ⟨rfl, hall⟩ | ⟨ob, hwr, rfl, hall⟩
          · refine goal s.mem (hall _) (fun Mx => ⟨_, hall Mx⟩) (h.mono ?_)
            intro out M'' ho
            cases out with
            | panic v => exact ho
            | ret r =>
              refine ⟨by simpa [put_mem] using ho.1, ?_⟩
              have h3 := ho.2
              rw [aopD1_le hy] at h3
              simp only [put_mem] at h3
              rw [detv_put (s := { s with mem := M'' }) g1, hall M''] at h3
              have h4 := h3.2
              rw [put_setmem, put_comm _ g3] at h4
              exact h4
          · refine goal (s.mem.set (ν iy) ob) (hall _) (fun Mx => ⟨_, hall Mx⟩) ((h.frame (free3 hy3 hfree) (free3 hy3 hnx) hwr).mono ?_)
            rintro out M'' ⟨M₁, ho, rfl, hj1⟩
            cases out with
            | panic v => exact absurd ho (hnp' _ _)
            | ret r =>
              simp only at ho
              refine ⟨(by simpa [put_mem] using ho.1 : Holds (S ix) M₁).far hj1, ?_⟩
              have h3 := ho.2
              rw [aopD1_le hy] at h3
              simp only [put_mem] at h3
              rw [detv_put (s := { s with mem := M₁ }) g1, hall M₁] at h3
              have h4 := h3.2
              rw [put_setmem, put_comm _ g3] at h4
              exact h4
      | _ => unfold LOper.cls at hx4; rw [hop] at hx4; first | (simp at hx4; done) | (rename_i q; cases q <;> simp [MOp.cls] at hx4)
end
end Go.A
end
