/- Calls, regions, functions: part 10. -/
import Derived.Test.YtpbomcnhgmniaaaDoorGo
section
namespace Go.A
section
variable {S : Stab} {id : Nat} {o : LOper} {r : Nat → AV} {M M' : Mem} {v : AV}
theorem detv_put {s : St} {d : Option Nat} {u : AV} (h : unseen o d = true) : detv S id o (s.put d u).regs M = detv S id o s.regs M := by
  unfold detv
  rw [wanted_put h]
  have he := ev_put (v := u) (s := s) h
  split
  · rfl
  · rfl
  · cases hop : o.op with
    | p q =>
      rw [hop] at he
      simp only
      rw [pop_congr (q := q) (ρ := fun x => x.ev (s.put d u).regs) (ρ' := fun x => x.ev s.regs) he]
    | m q =>
      rw [hop] at he
      simp only
      rw [mop_congr (q := q) (ρ := fun x => x.ev (s.put d u).regs) (ρ' := fun x => x.ev s.regs) he]
    | fl n x =>
      rw [hop] at he
      have := he x (by simp [LOp.opds])
      simp only [flv, this]
    | _ => rfl
theorem detv_pure (hc : o.cls = 0) (h : detv S id o r M = some (v, M')) : M' = M ∧ ∀ M₂, detv S id o r M₂ = some (v, M₂) := by
  unfold detv at h ⊢
  split at h
  · cases h
  · cases h; exact ⟨rfl, fun _ => rfl⟩
  · unfold LOper.cls at hc
    cases hop : o.op with
    | p q =>
      rw [hop] at h
      simp only [Option.map_eq_some_iff] at h
      obtain ⟨u, hu, h⟩ := h
      cases h
      exact ⟨rfl, fun _ => by simp [hu]⟩
    | fl n x =>
      rw [hop] at h
      simp only [Option.map_eq_some_iff] at h
      obtain ⟨u, hu, h⟩ := h
      cases h
      exact ⟨rfl, fun _ => by simp [hu]⟩
    | m q =>
      rw [hop] at hc
      cases q <;> simp [MOp.cls] at hc
    | _ => rw [hop] at hc; simp at hc
theorem detv_reads (hc : o.cls = 1) (h : detv S id o r M = some (v, M')) : M' = M := by
  unfold detv at h
  split at h
  · cases h
  · cases h; rfl
  · unfold LOper.cls at hc
    cases hop : o.op with
    | m q => rw [hop] at hc h; exact mop_reads hc h
    | _ => rw [hop] at hc; simp at hc
theorem detv_loc (h : detv S id o r M = some (v, M')) : Loc id M M' := by
  unfold detv at h
  split at h
  · cases h
  · cases h; exact Loc.refl _ _
  · cases hop : o.op with
    | p q => rw [hop] at h; simp only [Option.map_eq_some_iff] at h; obtain ⟨_, _, h⟩ := h; cases h; exact Loc.refl _ _
    | fl n x => rw [hop] at h; simp only [Option.map_eq_some_iff] at h; obtain ⟨_, _, h⟩ := h; cases h; exact Loc.refl _ _
    | m q => rw [hop] at h; exact mop_loc h
    | _ => rw [hop] at h; cases h
theorem detv_makes (hc : o.cls = 3) (h : detv S id o r M = some (v, M')) :
    (M' = M ∧ ∀ M₂, detv S id o r M₂ = some (v, M₂)) ∨ ∃ ob, ob.wr = true ∧ M' = M.set id ob ∧ ∀ M₂, detv S id o r M₂ = some (v, M₂.set id ob) := by
  unfold detv at h ⊢
  split at h
  · cases h
  · cases h; exact .inl ⟨rfl, fun _ => rfl⟩
  · unfold LOper.cls at hc
    cases hop : o.op with
    | m q =>
      rw [hop] at hc h
      exact .inr (mop_makes hc h)
    | _ => rw [hop] at hc; simp at hc
theorem detv_far {j : Nat} {ob : AObj} (hj : M.get j = none) (hid : id ≠ j) (hc : o.cls = 1 ∨ o.cls = 2 ∨ o.cls = 3) (h : detv S id o r M = some (v, M')) : detv S id o r (M.set j ob) = some (v, M'.set j ob) := by
  rcases hc with hc | hc | hc
  · have hM := detv_reads hc h
    subst hM
    unfold detv at h ⊢
    split at h
    · cases h
    · cases h; rfl
    · unfold LOper.cls at hc
      cases hop : o.op with
      | m q => rw [hop] at hc h; exact mop_far1 hj hc h
      | _ => rw [hop] at hc; simp at hc
  · unfold detv at h ⊢
    split at h
    · cases h
    · cases h; rfl
    · unfold LOper.cls at hc
      cases hop : o.op with
      | m q => rw [hop] at hc h; exact mop_far hj hid hc h
      | _ => rw [hop] at hc; simp at hc
  · rcases detv_makes hc h with ⟨rfl, h2⟩ | ⟨ob', _, rfl, h2⟩
    · exact h2 _
    · rw [h2, set_comm _ _ _ (Ne.symm hid)]
end
theorem Holds.far {S : Stab} {M : Mem} {j : Nat} {ob : AObj} (hj : M.get j = none) (h : Holds S M) : Holds S (M.set j ob) := fun x hx => rd_far hj (h x hx)
/-- The address that a load reads is not in the block with number id. -/
def avoids (o : LOper) (r : Nat → AV) (id : Nat) : Prop := ∀ t, o.ldT = some t → ∀ B p, r t = .ptr B p → B ≠ id
theorem ldT_cases {o : LOper} {t : Nat} (h : o.ldT = some t) : o.op = .m (.load (.t t)) ∨ ∃ n, o.op = .m (.loadn n (.t t)) := by
  unfold LOper.ldT at h
  split at h <;> cases h
  · exact .inl (by assumption)
  · exact .inr ⟨_, by assumption⟩
theorem rd_set_ne {M : Mem} {j b o : Nat} {ob : AObj} (h : b ≠ j) : (M.set j ob).rd b o = M.rd b o := by
  unfold Mem.rd; rw [Mem.set_ne _ _ h]
theorem rdn_set_ne {M : Mem} {j b o n : Nat} {ob : AObj} (h : b ≠ j) : (M.set j ob).rdn b o n = M.rdn b o n := by
  unfold Mem.rdn; rw [Mem.set_ne _ _ h]
/-- A load elsewhere does not see a new block. -/
theorem detv_back {S : Stab} {id j : Nat} {o : LOper} {r : Nat → AV} {M M' : Mem} {ob : AObj} {v : AV} {t : Nat} (ht : o.ldT = some t) (ha : avoids o r j) (h : detv S id o r (M.set j ob) = some (v, M')) : M' = M.set j ob ∧ detv S id o r M = some (v, M) := by
  unfold detv at h ⊢
  split at h
  · cases h
  · cases h; exact ⟨rfl, rfl⟩
  · rcases ldT_cases ht with hop | ⟨n, hop⟩
    · rw [hop] at h ⊢
      simp only [mop, Opd.ev] at h ⊢
      cases hr : r t with
      | ptr B p =>
        rw [hr] at h
        have hB := ha t ht B p hr
        simp only [Option.map_eq_some_iff, rd_set_ne hB] at h ⊢
        obtain ⟨u, hu, h⟩ := h
        cases h
        exact ⟨rfl, _, hu, rfl⟩
      | _ => rw [hr] at h; cases h
    · rw [hop] at h ⊢
      simp only [mop, Opd.ev] at h ⊢
      cases hr : r t with
      | ptr B p =>
        rw [hr] at h
        have hB := ha t ht B p hr
        simp only [Option.map_eq_some_iff, rdn_set_ne hB] at h ⊢
        obtain ⟨u, hu, h⟩ := h
        cases h
        exact ⟨rfl, _, hu, rfl⟩
      | _ => rw [hr] at h; cases h
theorem ldT_cls {o : LOper} {t : Nat} (h : o.ldT = some t) : o.cls = 1 := by
  unfold LOper.cls
  rcases ldT_cases h with e | ⟨n, e⟩ <;> rw [e] <;> rfl
theorem noid_cls3 {o : LOper} (h : o.cls = 3) : o.noid = false := by
  unfold LOper.cls at h
  unfold LOper.noid
  cases hop : o.op with
  | m q => rw [hop] at h; cases q <;> simp [MOp.cls] at h <;> rfl
  | _ => rw [hop] at h; simp at h
theorem free3 {o : LOper} {p : Prop} (h : o.cls = 3) (hf : o.noid = true ∨ p) : p := hf.resolve_left (by rw [noid_cls3 h]; simp)
/-- Two operations that call nothing. -/
theorem swap_det {Rx Ry Sx Sy : Stab} {ix iy : Nat} {x y : LOper} {s : St} {u v : AV} {M₁ M₂ : Mem} (hi : indep x y = true) (hx : x.cls ≤ 3) (_hy : y.cls ≤ 3) (hne : ix ≠ iy) (hfree : y.noid = true ∨ s.mem.get iy = none) (hadr : x.cls = 3 → avoids y s.regs ix)
    (h1 : detv Rx ix x s.regs s.mem = some (u, M₁)) (hH1 : x.cls = 2 → Holds Sx M₁) (h2 : detv Ry iy y (St.put { s with mem := M₁ } x.dst u).regs M₁ = some (v, M₂)) (hH2 : y.cls = 2 → Holds Sy M₂) :
    ∃ M₃, detv Ry iy y s.regs s.mem = some (v, M₃) ∧ (y.cls = 2 → Holds Sy M₃) ∧ detv Rx ix x (St.put { s with mem := M₃ } y.dst v).regs M₃ = some (u, M₂) ∧ (x.cls = 2 → Holds Sx M₂) := by
  simp only [indep, Bool.and_eq_true, Bool.or_eq_true, beq_iff_eq, decide_eq_true_eq] at hi
  obtain ⟨⟨⟨⟨⟨g1, g2⟩, g3⟩, g4⟩, g5⟩, g6⟩ := hi
  have e2 : detv Ry iy y s.regs M₁ = some (v, M₂) := by
    have := detv_put (S := Ry) (id := iy) (o := y) (M := M₁) (s := { s with mem := M₁ }) (u := u) g1
    rw [this] at h2; exact h2
  have back : ∀ M₃ M₄, detv Rx ix x s.regs M₃ = some (u, M₄) → detv Rx ix x (St.put { s with mem := M₃ } y.dst v).regs M₃ = some (u, M₄) := by
    intro M₃ M₄ h
    rw [detv_put (s := { s with mem := M₃ }) g2]; exact h
  rcases g6 with (((g6 | ⟨g6, g7⟩) | ⟨g6, g7⟩) | ⟨g6, g7⟩) | ⟨g6, g7⟩
  · obtain ⟨rfl, h3⟩ := detv_pure g6 h1
    exact ⟨M₂, e2, hH2, back _ _ (h3 M₂), fun h => by omega⟩
  · obtain ⟨rfl, h3⟩ := detv_pure g6 e2
    exact ⟨s.mem, h3 _, fun h => by omega, back _ _ h1, hH1⟩
  · have e3 := detv_reads g6 h1
    have e4 := detv_reads g7 e2
    subst e3 e4
    exact ⟨s.mem, e2, hH2, back _ _ h1, hH1⟩
  · have hx2 : x.cls = 1 ∨ x.cls = 2 ∨ x.cls = 3 := by omega
    rcases detv_makes g6 e2 with ⟨rfl, h3⟩ | ⟨ob, _, rfl, h3⟩
    · exact ⟨s.mem, h3 _, fun h => by omega, back _ _ h1, hH1⟩
    · refine ⟨s.mem.set iy ob, h3 _, fun h => by omega, back _ _ (detv_far (free3 g6 hfree) hne hx2 h1), fun h => ?_⟩
      exact (hH1 h).far ((detv_loc h1).hole _ (Ne.symm hne) (free3 g6 hfree))
  · -- a new block, then a load elsewhere
    rw [Option.isSome_iff_exists] at g7
    obtain ⟨t, ht⟩ := g7
    have hy1 := ldT_cls ht
    rcases detv_makes g6 h1 with ⟨rfl, h3⟩ | ⟨ob, _, rfl, h3⟩
    · have e4 := detv_reads hy1 e2
      subst e4
      exact ⟨_, e2, hH2, back _ _ h1, hH1⟩
    · obtain ⟨rfl, e4⟩ := detv_back ht (hadr g6) e2
      exact ⟨s.mem, e4, fun h => by omega, back _ _ h1, hH1⟩
end Go.A
end
