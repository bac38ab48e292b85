/- Calls, regions, functions: part 5. -/
import Derived.Test.YtpbomcnhgmniaaaDoorGj
section
namespace Go.A
section
variable {P : Program} {N : Nat} {rd : Option Nat} {Q : AExit → St → Prop} {s : St}
theorem lowOps_get {ops : Array Oper} : ∀ {l : List Oper} {i : Nat} {L : List (Nat × LOper)}, lowOps P N ops l i = some L → (L.map (·.1) = List.range' i l.length) ∧ ∀ p ∈ L, ∃ o, l[p.1 - i]? = some o ∧ i ≤ p.1 ∧ lowO P N ops o = some p.2
  | [], i, L, h => by simp [lowOps] at h; subst h; exact ⟨rfl, fun p hp => by cases hp⟩
  | o :: r, i, L, h => by
    simp only [lowOps] at h
    split at h <;> cases h
    rename_i lo m h1 h2
    obtain ⟨g1, g2⟩ := lowOps_get h2
    refine ⟨by simp [g1, List.range'_succ], ?_⟩
    intro p hp
    rcases List.mem_cons.1 hp with rfl | hp
    · exact ⟨o, by simp, Nat.le_refl _, h1⟩
    · obtain ⟨o', ho', hle, hlo⟩ := g2 p hp
      refine ⟨o', ?_, by omega, hlo⟩
      have : p.1 - i = (p.1 - (i + 1)) + 1 := by omega
      rw [this]; simpa using ho'
theorem lowO_dst {ops : Array Oper} {o : Oper} {lo : LOper} (h : lowO P N ops o = some lo) (d : Nat) (hd : o.dst = some d) : d < N := by
  unfold lowO at h
  split at h
  · split at h <;> cases h
    rename_i hk
    rw [hd] at hk; simpa [dstOK] using hk
  · cases h
theorem aops_sound {κ₀ : Kap} {M₀ : Mem} {w₀ : World} {crd : Option Nat} {ops : Array Oper} {Qp : AV → St → Prop} {K : St → Prop} {Qc : Exit → Act → World → Prop} (hdst : ∀ (j t : Nat), (ops[j]?).bind Oper.dst = some t → t < N)
    (hK : ∀ κ s a w, K s → StR κ N s a w → Mv κ₀ M₀ w₀ κ s.mem w → Qc .normal a w)
    (hQ : ∀ chain a w, PanicAt κ₀ M₀ w₀ N Qp chain a w → Qc (.panic chain) a w) :
    ∀ (L : List (Nat × LOper)) (κ : Kap) (s : St) (a : Act) (w : World), StR κ N s a w → Mv κ₀ M₀ w₀ κ s.mem w → (∀ p ∈ L, M₀.next + p.1 < s.mem.next ∧ κ (M₀.next + p.1) = none) → (L.map (·.1)).Nodup →
      (∀ p ∈ L, ∃ o, ops[p.1]? = some o ∧ lowO P N ops o = some p.2 ∧ (crd = none ∨ ∀ f l, p.2.op ≠ .defer f l)) → aops P M₀.next Qp L K s → wpOpsIn (FW crd) 0 P ops Qc (L.map (·.1)) a w
  | [], κ, s, a, w, hs, mv, _, _, _, h => hK κ s a w h hs mv
  | (i, lo) :: L, κ, s, a, w, hs, mv, hfree, hnd, hlow, h => by
    obtain ⟨o, ho, hlo, hrd⟩ := hlow (i, lo) (by simp)
    obtain ⟨hid, hk⟩ := hfree (i, lo) (by simp)
    simp only [List.map_cons, List.nodup_cons] at hnd
    have key := aop1_sound (Kc := wpOpsIn (FW crd) 0 P ops Qc (L.map (·.1))) (Qc := Qc) hlo hdst hs (.inr hid) (.inr hk) hrd h ?_ ?_
    · simp only [List.map_cons, wpOpsIn, ho]
      exact key
    · rintro a' w' ⟨κ', s', h1, h2, h3, h4, h5⟩
      have hnext := h3.own.next
      have mv' : Mv κ₀ M₀ w₀ κ' s'.mem w' := by
        refine ⟨mv.st.trans h3, ⟨fun B hB => ?_, fun B hB hn => ?_⟩⟩
        · have := mv.st.own.next
          rw [h4 B (by omega) (.inl (by omega))]; exact mv.keep.kap B hB
        · have := mv.st.own.next
          exact h5 B (by omega) (.inl (by omega)) (mv.keep.hole B hB hn)
      refine aops_sound hdst hK hQ L κ' s' a' w' h2 mv' ?_ hnd.2 (fun p hp => hlow p (by simp [hp])) h1
      intro p hp
      obtain ⟨g1, g2⟩ := hfree p (by simp [hp])
      have hne : p.1 ≠ i := by
        intro e
        exact hnd.1 (by rw [← e]; exact List.mem_map_of_mem hp)
      exact ⟨by omega, by rw [h4 _ g1 (.inl (by omega))]; exact g2⟩
    · rintro chain w' ⟨κ', s', v, V, h1, h2, h3, h4, h5⟩
      exact hQ _ _ _ ⟨κ', s', v, V, h1, h2, h3, h4, mv.trans h5⟩
/-- No operation of a region defers. -/
def noDefer (l : List (Nat × LOper)) : Bool := l.all fun p => match p.2.op with | .defer _ _ => false | _ => true
/-- The state with n numbers kept free. -/
def St.bump (s : St) (n : Nat) : St := { s with mem := { s.mem with next := s.mem.next + n } }
theorem LW.region {n : Nat} {l : List (Nat × LOper)} (hd : rd = none ∨ noDefer l = true) (h : aops P s.mem.next (fun v s' => Q (.panic v) s') l (fun s' => Q .normal s') (s.bump n)) : LW P N rd (.region n l) Q s := by
  intro c hc κ w a crd hs hrd
  obtain ⟨id, ops, rfl, hl, rfl⟩ := lowC_inv hc
  obtain ⟨g1, g2⟩ := lowOps_get hl
  have hsz : ops.toList.length = ops.size := by simp
  refine wpIn_region ?_
  have hmap : l.map (·.1) = List.range ops.size := by rw [g1, List.range_eq_range']; simp
  rw [← hmap]
  have st := hs.rel.bump ops.size
  have mv : Mv κ s.mem w κ (s.bump ops.size).mem w := ⟨st, ⟨fun _ _ => rfl, fun _ _ hh => hh⟩⟩
  refine aops_sound (κ₀ := κ) (M₀ := s.mem) (w₀ := w) ?_ ?_ ?_ l κ (s.bump ops.size) a w ⟨st.rel, hs.size, hs.regs, hs.dfr⟩ mv ?_ ?_ ?_ h
  · intro j t ht
    cases ho : ops[j]? with
    | none => rw [ho] at ht; simp at ht
    | some o =>
      rw [ho] at ht
      simp at ht
      have hj : j < ops.size := by
        rcases Nat.lt_or_ge j ops.size with h | h
        · exact h
        · rw [Array.getElem?_eq_none h] at ho; cases ho
      have hmem : j ∈ l.map (·.1) := by rw [hmap]; simpa using hj
      obtain ⟨p, hp, rfl⟩ := List.mem_map.1 hmem
      obtain ⟨o', ho', _, hlo⟩ := g2 p hp
      have : o' = o := by
        simp at ho'
        rw [ho] at ho'; cases ho'; rfl
      subst this
      exact lowO_dst hlo t ht
  · intro κ' s' a' w' hq hs' mv'
    exact ⟨κ', .normal, s', hq, trivial, hs', mv'⟩
  · rintro chain a' w' ⟨κ', s', v, V, h1, h2, h3, h4, h5⟩
    exact ⟨κ', .panic v, s', h1, ⟨V, h2, h3⟩, h4, h5⟩
  · intro p hp
    have hmem : p.1 ∈ l.map (·.1) := List.mem_map_of_mem hp
    rw [hmap] at hmem
    simp at hmem
    exact ⟨by simp [St.bump]; omega, hs.rel.fresh _ (by omega)⟩
  · rw [hmap]; exact List.nodup_range
  · intro p hp
    obtain ⟨o, ho, _, hlo⟩ := g2 p hp
    refine ⟨o, by simpa using ho, hlo, ?_⟩
    rcases hd with rfl | hd
    · left
      cases crd with
      | none => rfl
      | some c => exact hrd.elim
    · right
      intro f l' e
      have := List.all_eq_true.1 hd p hp
      rw [e] at this; cases this
end
end Go.A
end
