/- Calls, regions, functions: part 8. -/
import Derived.Test.YtpbomcnhgmniaaaDoorGm
section
namespace Go.A
def MOp.cls : MOp → Nat
  | .load _ | .loadn _ _ | .sla .. | .look .. | .lenm _ | .b2s _ => 1
  | .box _ | .zal _ | .bsl .. | .mkm | .mks .. | .rng _ | .s2b _ => 3
  | _ => 2
theorem set_comm (M : Mem) {a b : Nat} (x y : AObj) (h : a ≠ b) : (M.set a x).set b y = (M.set b y).set a x := by
  unfold Mem.set
  congr 1
  funext c
  by_cases e : c = a
  · subst e; simp [h]
  · by_cases e' : c = b
    · subst e'; simp [e]
    · simp [e, e']
/-- A reader leaves the memory. -/
theorem mop_reads {id : Nat} {ρ : Opd → AV} {M M' : Mem} {q : MOp} {v : AV} (hq : q.cls = 1) (h : mop id ρ M q = some (v, M')) : M' = M := by
  cases q <;> simp [MOp.cls] at hq <;> simp only [mop] at h
  · split at h
    · simp only [Option.map_eq_some_iff] at h; obtain ⟨_, _, h⟩ := h; cases h; rfl
    · cases h
  · split at h
    · simp only [Option.map_eq_some_iff] at h; obtain ⟨_, _, h⟩ := h; cases h; rfl
    · cases h
  · split at h <;> (try split at h) <;> (try split at h) <;> cases h; rfl
  · split at h
    · cases h
    · split at h
      · split at h <;> cases h <;> rfl
      · cases h
  · split at h <;> cases h; rfl
  · split at h
    · cases h; rfl
    · split at h
      · split at h
        · cases h; rfl
        · split at h
          · simp only [Option.map_eq_some_iff] at h; obtain ⟨_, _, h⟩ := h; cases h; rfl
          · cases h
      · cases h
    · cases h
/-- A maker makes its block whatever the memory holds. -/
theorem mop_makes {id : Nat} {ρ : Opd → AV} {M M' : Mem} {q : MOp} {v : AV} (hq : q.cls = 3) (h : mop id ρ M q = some (v, M')) :
    ∃ ob, ob.wr = true ∧ M' = M.set id ob ∧ ∀ M₂ : Mem, mop id ρ M₂ q = some (v, M₂.set id ob) := by
  cases q <;> simp [MOp.cls] at hq <;> simp only [mop] at h ⊢
  · split at h <;> cases h
    rename_i l hl
    exact ⟨_, rfl, rfl, fun M₂ => by simp⟩
  · cases h; exact ⟨_, rfl, rfl, fun M₂ => rfl⟩
  · split at h
    · rename_i l hl
      split at h <;> cases h
      rename_i hc
      exact ⟨_, rfl, rfl, fun M₂ => by rw [if_pos hc]⟩
    · cases h
  · cases h; exact ⟨_, rfl, rfl, fun M₂ => rfl⟩
  · split at h
    · split at h <;> cases h
      rename_i hc
      exact ⟨_, rfl, rfl, fun M₂ => by rw [if_pos hc]⟩
    · cases h
  · split at h
    · rename_i s hs
      split at h <;> cases h
      rename_i hc
      exact ⟨_, rfl, rfl, fun M₂ => by simp [hc]⟩
    · cases h
  · split at h <;> cases h
    rename_i s hs
    exact ⟨_, rfl, rfl, fun M₂ => by simp⟩
section
variable {M : Mem} {j : Nat} {ob : AObj}
theorem get_far (hj : M.get j = none) {b : Nat} {x : AObj} (h : M.get b = some x) : (M.set j ob).get b = some x := by
  rw [Mem.set_ne _ _ (by rintro rfl; rw [hj] at h; cases h)]; exact h
theorem rd_far (hj : M.get j = none) {b o : Nat} {v : AV} (h : M.rd b o = some v) : (M.set j ob).rd b o = some v := by
  unfold Mem.rd at h ⊢
  split at h
  · rename_i cs wr hb; rw [get_far hj hb]; exact h
  · cases h
theorem rdn_far (hj : M.get j = none) {b o n : Nat} {v : List AV} (h : M.rdn b o n = some v) : (M.set j ob).rdn b o n = some v := by
  unfold Mem.rdn at h ⊢
  split at h
  · rename_i cs wr hb; rw [get_far hj hb]; exact h
  · cases h
theorem wrs_far (hj : M.get j = none) {b o : Nat} {l : List AV} {M' : Mem} (h : M.wrs b o l = some M') : (M.set j ob).wrs b o l = some (M'.set j ob) := by
  unfold Mem.wrs at h ⊢
  split at h
  · rename_i cs hb
    rw [get_far hj hb]
    simp only
    split at h <;> cases h
    rename_i hle
    rw [if_pos hle, set_comm _ _ _ (by rintro rfl; rw [hj] at hb; cases hb)]
  · cases h
theorem ents_far (hj : M.get j = none) {m : AV} {es : List Ent} (h : entsOf M m = some es) : entsOf (M.set j ob) m = some es := by
  unfold entsOf at h ⊢
  split at h
  · exact h
  · rename_i r
    split at h
    · rename_i es' c hb; simp only [get_far hj hb]; exact h
    · cases h
  · cases h
theorem src_far (hj : M.get j = none) {es : Nat} {y : AV} {r : Nat × List AV} (h : asrc es M y = some r) : asrc es (M.set j ob) y = some r := by
  unfold asrc at h ⊢
  split at h
  · exact h
  · try simp only
    split at h
    · rename_i e
      rw [if_pos e]
      split at h
      · rename_i e; rw [if_pos e]; exact h
      · rename_i e
        rw [if_neg e]
        simp only [Option.map_eq_some_iff] at h ⊢
        obtain ⟨l, hl, h⟩ := h
        exact ⟨l, rdn_far hj hl, h⟩
    · cases h
  · exact h
  · cases h
theorem del_set_comm (M : Mem) {a b j : Nat} (x y : AObj) (h1 : a ≠ j) (h2 : b ≠ j) : ((M.set j y).del a).set b x = ((M.del a).set b x).set j y := by
  unfold Mem.set Mem.del
  congr 1
  funext c
  by_cases e : c = j
  · subst e; simp [h1.symm, h2.symm]
  · by_cases e' : c = b
    · subst e'; simp [e]
    · by_cases e'' : c = a
      · subst e''; simp [e, e']
      · simp [e, e', e'']
theorem aapp_far (hj : M.get j = none) {id es bytes n : Nat} (hid : id ≠ j) {x : AV} {l : List AV} {v : AV} {M' : Mem} (h : aapp id es bytes M x n l = some (v, M')) : aapp id es bytes (M.set j ob) x n l = some (v, M'.set j ob) := by
  unfold aapp at h ⊢
  split at h
  · try simp only
    split at h
    · rename_i e; cases h; rw [if_pos e]
    · rename_i e
      split at h <;> cases h
      rename_i e'
      rw [if_neg e, if_pos e', set_comm _ _ _ hid]
  · rename_i b o k c es'
    try simp only
    split at h
    · rename_i e
      rw [if_pos e]
      split at h
      · rename_i e; cases h; rw [if_pos e]
      · rename_i e
        rw [if_neg e]
        split at h
        · rename_i cs wr hb
          have hbj : b ≠ j := by rintro rfl; rw [hj] at hb; cases hb
          rw [get_far hj hb]
          simp only
          split at h
          · rename_i e
            rw [if_pos e]
            split at h
            · try simp only
              split at h
              · rename_i e
                rw [if_pos e]
                simp only [Option.map_eq_some_iff] at h ⊢
                obtain ⟨M₂, hw, h⟩ := h
                cases h
                exact ⟨_, wrs_far hj hw, rfl⟩
              · rename_i e; cases h; rw [if_neg e, set_comm _ _ _ hid]
            · try simp only
              split at h
              · rename_i e
                rw [if_pos e]
                simp only [Option.map_eq_some_iff] at h ⊢
                obtain ⟨M₂, hw, h⟩ := h
                cases h
                exact ⟨_, wrs_far hj hw, rfl⟩
              · rename_i e
                rw [if_neg e]
                split at h <;> cases h
                rename_i e'
                rw [if_pos e', del_set_comm _ _ _ hbj hid]
          · cases h
        · cases h
    · cases h
  · cases h
theorem mop_far1 (hj : M.get j = none) {id : Nat} {ρ : Opd → AV} {q : MOp} {v : AV} {M' : Mem} (hq : q.cls = 1) (h : mop id ρ M q = some (v, M')) : mop id ρ (M.set j ob) q = some (v, M.set j ob) := by
  cases q <;> simp [MOp.cls] at hq <;> simp only [mop] at h ⊢
  · split at h
    · rename_i b o hb
      simp only [Option.map_eq_some_iff] at h
      obtain ⟨u, hu, h⟩ := h
      cases h
      rw [rd_far hj hu]; rfl
    · cases h
  · split at h
    · rename_i b o hb
      simp only [Option.map_eq_some_iff] at h
      obtain ⟨u, hu, h⟩ := h
      cases h
      rw [rdn_far hj hu]; rfl
    · cases h
  · split at h
    · split at h
      · rename_i hb hlh
        rw [get_far hj hb, hlh]
        simp only
        split at h
        · rename_i e; cases h; rw [if_pos e]
        · cases h
      · cases h
    · cases h
  · split at h
    · cases h
    · rename_i e
      rw [if_neg e]
      split at h
      · rename_i es hes
        rw [ents_far hj hes]
        simp only
        split at h <;> cases h <;> rfl
      · cases h
  · split at h
    · rename_i es hes
      cases h
      rw [ents_far hj hes]
    · cases h
  · split at h
    · cases h; rfl
    · rename_i b o n c es hb
      split at h
      · rename_i e
        rw [if_pos e]
        split at h
        · rename_i e; cases h; rw [if_pos e]
        · rename_i e
          rw [if_neg e]
          split at h
          · rename_i l hl
            rw [rdn_far hj hl]
            simp only [Option.map_eq_some_iff] at h ⊢
            obtain ⟨u, hu, h⟩ := h
            cases h
            exact ⟨u, hu, rfl⟩
          · cases h
      · cases h
    · cases h
theorem mop_far (hj : M.get j = none) {id : Nat} (hid : id ≠ j) {ρ : Opd → AV} {M' : Mem} {q : MOp} {v : AV} (hq : q.cls = 2) (h : mop id ρ M q = some (v, M')) : mop id ρ (M.set j ob) q = some (v, M'.set j ob) := by
  cases q <;> simp [MOp.cls] at hq <;> simp only [mop] at h ⊢
  · -- store
    split at h
    · split at h
      · rename_i e
        rw [if_pos e]
        simp only [Option.map_eq_some_iff] at h ⊢
        obtain ⟨M₂, hw, h⟩ := h
        cases h
        exact ⟨_, wrs_far hj hw, rfl⟩
      · cases h
    · cases h
  · -- mup
    split at h
    · cases h
    · rename_i e
      rw [if_neg e]
      split at h
      · rename_i r hr
        split at h
        · rename_i es c hb
          have hbj : r ≠ j := by rintro rfl; rw [hj] at hb; cases hb
          rw [get_far hj hb]
          simp only
          split at h
          · rename_i i u hf
            split at h
            · rename_i a b' c' hi
              split at h <;> cases h
              rename_i e
              rw [if_pos e, set_comm _ _ _ hbj]
            · cases h
          · cases h; rw [set_comm _ _ _ hbj]
          · cases h
        · cases h
      · cases h
  · -- men
    split at h
    · cases h
    · rename_i e
      rw [if_neg e]
      split at h
      · rename_i r hr
        split at h
        · rename_i es c hb
          have hbj : r ≠ j := by rintro rfl; rw [hj] at hb; cases hb
          rw [get_far hj hb]
          simp only
          split at h
          · rename_i i u hf
            split at h
            · rename_i a b' c' hi
              split at h <;> cases h
              rename_i e
              rw [if_pos e]
            · cases h
          · cases h; rw [set_comm _ _ _ hbj]
          · cases h
        · cases h
      · cases h
  · -- mst
    split at h
    · rename_i r kk n hr hn
      split at h
      · rename_i es c hb
        have hbj : r ≠ j := by rintro rfl; rw [hj] at hb; cases hb
        rw [get_far hj hb]
        simp only
        split at h <;> cases h
        rename_i es' hes
        try simp only [hes]
        rw [set_comm _ _ _ hbj]
      · cases h
    · cases h
  · -- app
    split at h
    · rename_i n l hs
      rw [src_far hj hs]
      simp only
      split at h
      · rename_i e
        rw [if_pos e]
        exact aapp_far hj hid h
      · cases h
    · cases h
  · -- cpy
    split at h
    · split at h <;> cases h <;> rfl
    · split at h
      · rename_i e
        rw [if_pos e]
        split at h
        · cases h; rfl
        · split at h
          · rename_i e
            rw [if_pos e]
            split at h
            · rename_i e; cases h; rw [if_pos e]
            · rename_i e
              rw [if_neg e]
              split at h
              · rename_i l hl
                rw [rdn_far hj hl]
                simp only
                split at h
                · rename_i e
                  rw [if_pos e]
                  simp only [Option.map_eq_some_iff] at h ⊢
                  obtain ⟨M₂, hw, h⟩ := h
                  cases h
                  exact ⟨_, wrs_far hj hw, rfl⟩
                · cases h
              · cases h
          · cases h
        · split at h
          · rename_i e
            rw [if_pos e]
            split at h
            · rename_i e; cases h; rw [if_pos e]
            · rename_i e
              rw [if_neg e]
              simp only [Option.map_eq_some_iff] at h ⊢
              obtain ⟨M₂, hw, h⟩ := h
              cases h
              exact ⟨_, wrs_far hj hw, rfl⟩
          · cases h
        · cases h
      · cases h
    · cases h
  · -- nxt
    split at h
    · rename_i r hr
      split at h
      · rename_i s pos hb
        have hbj : r ≠ j := by rintro rfl; rw [hj] at hb; cases hb
        rw [get_far hj hb]
        simp only
        split at h <;> cases h
        · rename_i e
          rw [if_pos e, set_comm _ _ _ hbj]
        · rename_i e
          rw [if_neg e]
      · cases h
    · cases h
end
end Go.A
end
