/- Calls, regions, functions: part 12. -/
import Derived.Test.YtpbomcnhgmniaaaDoorGq
section
namespace Go.A
/-- An operation that cannot fail. -/
def sure (o : LOper) : Bool :=
  o.guard.isNone && match o.op with
    | .m (.zal _) | .m .mkm => true
    | _ => false
def indepX (x y : LOper) : Bool := indep x y && (!(x.cls == 4 && y.cls == 3) || sure y)
theorem sure_some {S : Stab} {id : Nat} {o : LOper} {r : Nat → AV} {M : Mem} (h : sure o = true) : ∃ v M', detv S id o r M = some (v, M') := by
  unfold sure at h
  simp only [Bool.and_eq_true, Option.isNone_iff_eq_none] at h
  obtain ⟨hg, h⟩ := h
  unfold detv
  rw [hg]
  simp only [wantedA]
  split at h
  · rename_i z hz; rw [hz]; exact ⟨_, _, rfl⟩
  · rename_i hz; rw [hz]; exact ⟨_, _, rfl⟩
  · cases h
section
variable {P : Program} {R S : Nat → Stab} {ν : Nat → Nat} {Qp : AV → St → Prop}
theorem put_regs_ne (s : St) (d : Option Nat) (v : AV) : ∀ t, d ≠ some t → (s.put d v).regs t = s.regs t := by
  intro t ht
  cases d with
  | none => rfl
  | some d =>
    have : t ≠ d := by rintro rfl; exact ht rfl
    simp [St.put, this]
theorem Holds.sub {S T : Stab} {M : Mem} (h : Holds S M) (hs : ∀ x ∈ T, x ∈ S) : Holds T M := fun x hx => h x (hs x hx)
theorem aopD1_mono {i : Nat} {o : LOper} {K K' : St → Prop} {s : St} {T : Stab} (h : ∀ s', Loc (ν i) s.mem s'.mem ∨ (s.mem.next ≤ s'.mem.next ∧ ∀ B, B < s.mem.next → s.mem.get B = none → s'.mem.get B = none) → (∀ t, o.dst ≠ some t → s'.regs t = s.regs t) → Holds T s'.mem → K s' → K' s') (hH : Holds T s.mem) (hTS : ∀ x ∈ T, x ∈ S i)
    (hfree : o.noid = true ∨ s.mem.get (ν i) = none) (hh : aopD1 P R S ν Qp i o K s) : aopD1 P R S ν Qp i o K' s := by
  by_cases hc : o.cls ≤ 3
  · rw [aopD1_le hc] at hh ⊢
    split at hh
    case h_2 => exact hh.elim
    rename_i v M' hd
    refine ⟨hh.1, ?_⟩
    have hl := detv_loc hd
    refine h _ (.inl (by rw [put_mem]; exact hl)) (fun t ht => put_regs_ne _ _ _ t ht) ?_ hh.2
    rw [put_mem]
    show Holds T M'
    have h4 : o.cls = 0 ∨ o.cls = 1 ∨ o.cls = 2 ∨ o.cls = 3 := by omega
    rcases h4 with e | e | e | e
    · rw [(detv_pure e hd).1]; exact hH
    · rw [detv_reads e hd]; exact hH
    · exact (hh.1 e).sub hTS
    · rcases detv_makes e hd with ⟨rfl, _⟩ | ⟨ob, _, rfl, _⟩
      · exact hH
      · exact hH.far (free3 e hfree)
  · by_cases h4 : o.cls = 4
    · rw [aopD1_call h4] at hh ⊢
      unfold aop1 at hh ⊢
      split at hh
      · exact hh.elim
      · refine ⟨hh.1, h _ (.inl ?_) (fun t ht => put_regs_ne _ _ _ t ht) (by rw [put_mem]; exact hH) hh.2⟩
        rw [put_mem]; exact Loc.refl _ _
      · cases hop : o.op with
        | call f args =>
          rw [hop] at hh
          simp only at hh ⊢
          refine hh.keep.mono ?_
          rintro out M' ⟨hout, hk, hn⟩
          cases out with
          | panic v => exact hout
          | ret r =>
            refine ⟨hout.1, h _ (.inr ?_) (fun t ht => put_regs_ne _ _ _ t ht) (hout.1.sub hTS) hout.2⟩
            rw [put_mem]
            exact ⟨hn, hk⟩
        | _ => unfold LOper.cls at h4; rw [hop] at h4; first | (simp at h4; done) | (rename_i q; cases q <;> simp [MOp.cls] at h4)
    · unfold aopD1 at hh; rw [if_neg hc, if_neg h4] at hh; exact hh.elim
/-- The numbers of a list of operations are free. -/
def FreeL (ν : Nat → Nat) (l : List (Nat × LOper)) (M : Mem) : Prop := ∀ p ∈ l, p.2.noid = true ∨ (M.get (ν p.1) = none ∧ ν p.1 < M.next)
theorem FreeL.step {i : Nat} {l : List (Nat × LOper)} {M M' : Mem} (h : FreeL ν l M) (hne : ∀ p ∈ l, ν p.1 ≠ ν i) (hs : Loc (ν i) M M' ∨ (M.next ≤ M'.next ∧ ∀ B, B < M.next → M.get B = none → M'.get B = none)) : FreeL ν l M' := by
  intro p hp
  rcases h p hp with h0 | ⟨h1, h2⟩
  · exact .inl h0
  rcases hs with hs | hs
  · exact .inr ⟨hs.hole _ (hne p hp) h1, by rw [hs.next]; exact h2⟩
  · exact .inr ⟨hs.2 _ h2 h1, by have := hs.1; omega⟩
theorem take_first {i : Nat} {o : LOper} {L2 : List (Nat × LOper)} {K : St → Prop} (hν : ∀ i j, ν i = ν j → i = j) (hQp : ∀ v s d u, Qp v (St.put s d u) → Qp v s) :
    ∀ (L1 : List (Nat × LOper)) (s : St), (∀ x ∈ L1, indepX x.2 o = true) → ((L1 ++ (i, o) :: L2).map (·.1)).Nodup → ((∀ v s', ¬ Qp v s') ∨ ∀ x ∈ L1, ¬ (x.2.cls = 4 ∧ o.cls = 3)) →
      FreeL ν (L1 ++ (i, o) :: L2) s.mem → (∀ x ∈ L1, x.2.cls = 3 → avoids o s.regs (ν x.1)) → aopsD P R S ν Qp (L1 ++ (i, o) :: L2) K s → aopD1 P R S ν Qp i o (aopsD P R S ν Qp (L1 ++ L2) K) s
  | [], s, _, _, _, _, _, h => h
  | (j, x) :: L1, s, hi, hnd, hnp, hfree, hav, h => by
    simp only [List.cons_append, List.map_cons, List.nodup_cons] at hnd
    have hx := hi (j, x) (by simp)
    have hji : j ≠ i := by
      intro e
      exact hnd.1 (by subst e; simp)
    have hfj := hfree (j, x) (by simp)
    have hfi := hfree (i, o) (by simp)
    unfold indepX at hx
    simp only [Bool.and_eq_true, Bool.or_eq_true, Bool.not_eq_true', Bool.and_eq_false_iff, beq_eq_false_iff_ne, ne_eq] at hx
    have h1 : aopD1 P R S ν Qp j x (aopD1 P R S ν Qp i o (aopsD P R S ν Qp (L1 ++ L2) K)) s := by
      refine aopD1_mono (T := []) ?_ (fun x hx => by cases hx) (fun x hx => by cases hx) (hfj.imp id And.left) (show aopD1 P R S ν Qp j x (aopsD P R S ν Qp (L1 ++ (i, o) :: L2) K) s from h)
      intro s' hs' hreg _ h'
      refine take_first hν hQp L1 s' (fun y hy => hi y (by simp [hy])) hnd.2 ?_ ?_ ?_ h'
      · exact hnp.imp id fun hh y hy => hh y (by simp [hy])
      · refine FreeL.step (fun p hp => hfree p (by simp only [List.cons_append, List.mem_cons]; exact .inr hp)) ?_ hs'
        intro p hp e
        replace e := hν _ _ e
        exact hnd.1 (by rw [← e]; exact List.mem_map_of_mem hp)
      · intro y hy hc t ht B p hr
        refine hav y (by simp [hy]) hc t ht B p ?_
        rw [← hr]
        symm
        refine hreg t ?_
        intro e
        have hu : unseen o x.dst = true := by
          have := hx.1
          simp only [indep, Bool.and_eq_true] at this
          exact this.1.1.1.1.1
        rw [e] at hu
        simp only [unseen, Bool.not_eq_true', List.contains_eq_mem, decide_eq_false_iff_not] at hu
        refine hu ?_
        unfold LOper.tms
        rcases ldT_cases ht with hop | ⟨n, hop⟩ <;> rw [hop] <;> simp [LOp.opds, MOp.opds, tmOf]
    refine swapD hx.1 (fun e => hji (hν _ _ e)) (hfi.imp id And.left) (hfi.imp id And.right) (hav (j, x) (by simp)) hQp ?_ (hnp.imp id fun hh => hh (j, x) (by simp)) h1
    intro c1 c2
    rcases hx.2 with hc | hc
    · exact absurd c2 (by rcases hc with hc | hc <;> simp_all)
    · exact sure_some hc
end
end Go.A
end
