/- Calls, regions, functions: part 13. -/
import Derived.Test.YtpbomcnhgmniaaaDoorGr
section
namespace Go.A
/-- A load of a cell that is known to stay. -/
def freeL (o : LOper) : LOper :=
  match o.op with
  | .m (.load x) => { o with op := .fl none x }
  | .m (.loadn n x) => { o with op := .fl (some n) x }
  | _ => o
theorem freeL_cases (o : LOper) : freeL o = o ∨ (∃ x, o.op = .m (.load x) ∧ freeL o = { o with op := .fl none x }) ∨ (∃ n x, o.op = .m (.loadn n x) ∧ freeL o = { o with op := .fl (some n) x }) := by
  unfold freeL
  split
  · rename_i x hx; exact .inr (.inl ⟨x, hx, rfl⟩)
  · rename_i n x hx; exact .inr (.inr ⟨n, x, hx, rfl⟩)
  · exact .inl rfl
section
variable {P : Program} {R S : Nat → Stab} {ν : Nat → Nat} {Qp : AV → St → Prop}
theorem aopD1_down {i : Nat} {o lo : LOper} {K : St → Prop} {s : St} {T : Stab} (hlo : lo = o ∨ lo = freeL o) (hnf : ∀ n x, o.op ≠ .fl n x) (hR : Holds (R i) s.mem) (hH : Holds T s.mem) (hTS : ∀ x ∈ T, x ∈ S i) (hfree : o.noid = true ∨ s.mem.get (ν i) = none) (h : aopD1 P R S ν Qp i lo K s) :
    aop1 P (ν i) Qp 0 o (fun s' => Holds T s'.mem ∧ K s') s ∧ ∀ f l, o.op ≠ .defer f l := by
  have hnl : o.noid = true → lo.noid = true := by
    rcases hlo with e | e
    · subst e; exact id
    · intro _
      rcases freeL_cases o with c | ⟨x, c, e'⟩ | ⟨n, x, c, e'⟩
      · rw [c] at e; subst e; assumption
      · rw [e, e']; rfl
      · rw [e, e']; rfl
  have hfree := hfree.imp hnl id
  have h := aopD1_mono (K' := fun s' => Holds T s'.mem ∧ K s') (fun s' _ _ h1 h2 => ⟨h1, h2⟩) hH hTS hfree h
  have hlo' : lo = o ∨ (∃ x, o.op = .m (.load x) ∧ lo = { o with op := .fl none x }) ∨ (∃ n x, o.op = .m (.loadn n x) ∧ lo = { o with op := .fl (some n) x }) := by
    rcases hlo with e | e
    · exact .inl e
    · rw [e]; exact freeL_cases o
  clear hlo
  rcases hlo' with rfl | ⟨x, ho, rfl⟩ | ⟨n, x, ho, rfl⟩
  · by_cases hc : lo.cls ≤ 3
    · rw [aopD1_le hc] at h
      split at h
      case h_2 => exact h.elim
      rename_i v M' hd
      refine ⟨?_, fun f l e => by unfold LOper.cls at hc; rw [e] at hc; simp at hc⟩
      replace h := h.2
      unfold detv at hd
      unfold aop1
      split at hd
      · cases hd
      · rename_i hw; cases hd; rw [hw]; exact h
      · rename_i hw
        rw [hw]
        cases hop : lo.op with
        | p q =>
          rw [hop] at hd
          simp only [Option.map_eq_some_iff] at hd
          obtain ⟨u, hu, hd⟩ := hd
          cases hd
          simp only [hu]; exact h
        | m q =>
          rw [hop] at hd
          simp only at hd
          simp only [Nat.add_zero, hd]; exact h
        | fl n x => exact absurd hop (hnf n x)
        | _ => rw [hop] at hd; cases hd
    · have h4 : lo.cls = 4 := by
        unfold aopD1 at h; rw [if_neg hc] at h
        split at h
        · assumption
        · exact h.elim
      rw [aopD1_call h4] at h
      refine ⟨?_, fun f l e => by unfold LOper.cls at h4; rw [e] at h4; simp at h4⟩
      unfold aop1 at h ⊢
      split at h
      · exact h.elim
      · exact h.2
      · cases hop : lo.op with
        | call f args =>
          rw [hop] at h
          simp only at h ⊢
          refine h.mono ?_
          intro out M' hout
          cases out with
          | ret v => exact hout.2
          | panic v => exact hout
        | _ => unfold LOper.cls at h4; rw [hop] at h4; first | (simp at h4; done) | (rename_i q; cases q <;> simp [MOp.cls] at h4)
  · refine ⟨?_, fun f l e => by rw [ho] at e; cases e⟩
    have hc : ({ o with op := .fl none x } : LOper).cls ≤ 3 := by simp [LOper.cls]
    rw [aopD1_le hc] at h
    split at h
    case h_2 => exact h.elim
    rename_i v M' hd
    replace h := h.2
    unfold detv at hd
    unfold aop1
    simp only at hd h
    split at hd
    · cases hd
    · rename_i hw; cases hd; rw [hw]; exact h
    · rename_i hw
      rw [hw]
      simp only [Option.map_eq_some_iff] at hd
      obtain ⟨u, hu, hd⟩ := hd
      cases hd
      simp only [ho]
      unfold flv at hu
      have : mop (ν i) (fun x => x.ev s.regs) s.mem (.load x) = some (v, s.mem) := by
        simp only [mop]
        split at hu
        · rename_i b of e
          rw [e]
          simp only at hu ⊢
          rw [hR.look hu]; rfl
        · cases hu
      simp only [Nat.add_zero, this]
      exact h
  · refine ⟨?_, fun f l e => by rw [ho] at e; cases e⟩
    have hc : ({ o with op := .fl (some n) x } : LOper).cls ≤ 3 := by simp [LOper.cls]
    rw [aopD1_le hc] at h
    split at h
    case h_2 => exact h.elim
    rename_i v M' hd
    replace h := h.2
    unfold detv at hd
    unfold aop1
    simp only at hd h
    split at hd
    · cases hd
    · rename_i hw; cases hd; rw [hw]; exact h
    · rename_i hw
      rw [hw]
      simp only [Option.map_eq_some_iff] at hd
      obtain ⟨u, hu, hd⟩ := hd
      cases hd
      simp only [ho]
      unfold flv at hu
      have : mop (ν i) (fun x => x.ev s.regs) s.mem (.loadn n x) = some (v, s.mem) := by
        simp only [mop]
        split at hu
        · rename_i b of e
          rw [e]
          simp only at hu ⊢
          split at hu
          · cases hu
          · rename_i hn
            simp only [Option.map_eq_some_iff] at hu
            obtain ⟨l, hl, rfl⟩ := hu
            rw [hR.lookn hl hn]; rfl
        · cases hu
      simp only [Nat.add_zero, this]
      exact h
end
end Go.A
end
