/- Calls, regions, functions: part 14. -/
import Derived.Test.YtpbomcnhgmniaaaDoorGs
section
namespace Go.A
def preds (ops : Array Oper) (i : Nat) : List Nat :=
  match ops[i]? with
  | some o => (o.after.toList.filter fun e => Region.binds .any e).map (·.on)
  | none => []
def predMask (tab : List Nat) (l : List Nat) : Nat := l.foldl (fun s p => s ||| 2 ^ p ||| tab.getD p 0) 0
def anc (tab : List Nat) (z x : Nat) : Bool := (tab.getD z 0).testBit x
theorem predMask_bit {tab : List Nat} {x : Nat} : ∀ {l : List Nat} {s : Nat}, (l.foldl (fun s p => s ||| 2 ^ p ||| tab.getD p 0) s).testBit x = true → s.testBit x = true ∨ ∃ p ∈ l, p = x ∨ anc tab p x = true
  | [], s, h => .inl h
  | p :: l, s, h => by
    simp only [List.foldl_cons] at h
    rcases predMask_bit h with h | ⟨q, hq, h⟩
    · simp only [Nat.testBit_or, Bool.or_eq_true, Nat.testBit_two_pow, decide_eq_true_eq] at h
      rcases h with (h | h) | h
      · exact .inl h
      · exact .inr ⟨p, by simp, .inl h⟩
      · exact .inr ⟨p, by simp, .inr h⟩
    · exact .inr ⟨q, by simp [hq], h⟩
def ancOK (ops : Array Oper) (tab : List Nat) : Nat → Bool
  | 0 => true
  | n + 1 => ((tab.getD n 0) ||| predMask tab (preds ops n) == predMask tab (preds ops n)) && ancOK ops tab n
theorem ancOK_spec {ops : Array Oper} {tab : List Nat} : ∀ {n : Nat}, ancOK ops tab n = true → ∀ z x, z < n → anc tab z x = true → ∃ p ∈ preds ops z, p = x ∨ anc tab p x = true
  | 0, _, z, x, hz, _ => by omega
  | n + 1, h, z, x, hz, ha => by
    simp only [ancOK, Bool.and_eq_true, beq_iff_eq] at h
    by_cases e : z = n
    · subst e
      have : (predMask tab (preds ops z)).testBit x = true := by
        rw [← h.1, Nat.testBit_or]
        unfold anc at ha
        rw [ha]; rfl
      rcases predMask_bit this with h | h
      · simp at h
      · exact h
    · exact ancOK_spec h.2 z x (by omega) ha
/-- x may come before y. -/
def PairOK (ops : Array Oper) (tab : List Nat) (x y : Nat × LOper) : Prop :=
  (anc tab y.1 x.1 = true ∨ indepX x.2 y.2 = true) ∧ y.1 ∉ preds ops x.1
section
variable {P : Program} {R S : Nat → Stab} {N : Nat}
theorem ready_spec {ops : Array Oper} {listed : Array Bool} {i : Nat} (h : i ∈ Region.ready .any ops listed) : i < ops.size ∧ listed.getD i true = false ∧ ∀ p ∈ preds ops i, listed.getD p false = true := by
  unfold Region.ready at h
  simp only [List.mem_filter, List.mem_range, Bool.and_eq_true, Bool.not_eq_true'] at h
  obtain ⟨h1, h2, h3⟩ := h
  refine ⟨h1, h2, ?_⟩
  intro p hp
  unfold preds at hp
  cases ho : ops[i]? with
  | none => rw [ho] at hp; simp at hp
  | some o =>
    rw [ho] at hp h3
    simp only [List.mem_map, List.mem_filter] at hp
    obtain ⟨e, ⟨he, hb⟩, rfl⟩ := hp
    simp only [Option.map_some, Option.getD_some] at h3
    rw [← Array.all_toList] at h3
    simp only [List.all_eq_true, Bool.or_eq_true, Bool.not_eq_true'] at h3
    rcases h3 e he with h | h
    · rw [hb] at h; cases h
    · exact h
theorem mem_ready {ops : Array Oper} {listed : Array Bool} {i : Nat} (h1 : i < ops.size) (h2 : listed.getD i true = false) (h3 : ∀ p ∈ preds ops i, listed.getD p false = true) : i ∈ Region.ready .any ops listed := by
  unfold Region.ready
  simp only [List.mem_filter, List.mem_range, Bool.and_eq_true, Bool.not_eq_true']
  refine ⟨h1, h2, ?_⟩
  have ho : ops[i]? = some ops[i] := by simp [h1]
  rw [ho]
  simp only [Option.map_some, Option.getD_some]
  rw [← Array.all_toList]
  simp only [List.all_eq_true, Bool.or_eq_true, Bool.not_eq_true']
  intro e he
  by_cases hb : Region.binds .any e = true
  · refine .inr (h3 _ ?_)
    unfold preds
    rw [ho]
    simp only [List.mem_map, List.mem_filter]
    exact ⟨e, ⟨he, hb⟩, rfl⟩
  · exact .inl (by simpa using hb)
/-- What is listed is what is not left. -/
structure Left (ops : Array Oper) (tab : List Nat) (listed : Array Bool) (rem : List (Nat × LOper)) : Prop where
  size : listed.size = ops.size
  on : ∀ j, j < ops.size → (listed.getD j true = false ↔ j ∈ rem.map (·.1))
  lt : ∀ p ∈ rem, p.1 < ops.size
  down : ∀ z x, z < ops.size → listed.getD z true = true → anc tab z x = true → x ∉ rem.map (·.1)
theorem getD_tf {l : Array Bool} {j : Nat} (h : j < l.size) (b c : Bool) : l.getD j b = l.getD j c := by simp [Array.getD, h]
theorem any_sound {ν : Nat → Nat} {κ₀ : Kap} {M₀ : Mem} {w₀ : World} {crd : Option Nat} {ops : Array Oper} {tab : List Nat} {Qp : AV → St → Prop} {K : St → Prop} {Qc : Exit → Act → World → Prop} (hdst : ∀ (j t : Nat), (ops[j]?).bind Oper.dst = some t → t < N)
    (hν : ∀ i j, ν i = ν j → i = j) (hRS : ∀ i j, j ≠ i → anc tab i j = false → ∀ x ∈ R j, x ∈ S i) (hQp : ∀ v s d u, Qp v (St.put s d u) → Qp v s) (hQ : ∀ chain a w, PanicAt κ₀ M₀ w₀ N Qp chain a w → Qc (.panic chain) a w) (hanc : ancOK ops tab ops.size = true)
    (hK : ∀ κ s a w, K s → StR κ N s a w → Mv κ₀ M₀ w₀ κ s.mem w → Qc .normal a w) :
    ∀ (fuel : Nat) (rem : List (Nat × LOper)) (listed : Array Bool) (κ : Kap) (s : St) (a : Act) (w : World), rem.length ≤ fuel → Left ops tab listed rem → ((∀ v s', ¬ Qp v s') ∨ rem.Pairwise (fun x y => ¬ (x.2.cls = 4 ∧ y.2.cls = 3))) → rem.Pairwise (PairOK ops tab) → (rem.map (·.1)).Nodup → (∀ p ∈ rem, p.1 ∉ preds ops p.1) →
      (∀ p ∈ rem, ∀ q ∈ preds ops p.1, q < ops.size) →
      (∀ p ∈ rem, ∃ o lo, ops[p.1]? = some o ∧ lowO P N ops o = some lo ∧ (p.2 = lo ∨ p.2 = freeL lo)) → StR κ N s a w → Mv κ₀ M₀ w₀ κ s.mem w → FreeL ν rem s.mem → (∀ p ∈ rem, p.2.noid = true ∨ (κ (ν p.1) = none ∧ M₀.next ≤ ν p.1)) → (∀ q ∈ rem, Holds (R q.1) s.mem) →
      aopsD P R S ν Qp rem K s → wpAnyIn (FW crd) 0 P .any ops Qc fuel listed a w := by
  intro fuel
  induction fuel with
  | zero =>
    intro rem listed κ s a w hf hL _ _ _ _ _ _ hs mv _ _ _ h
    have : rem = [] := List.length_eq_zero_iff.1 (by omega)
    subst this
    refine ⟨?_, hK _ _ _ _ h hs mv⟩
    apply List.eq_nil_iff_forall_not_mem.2
    intro i hi
    obtain ⟨h1, h2, _⟩ := ready_spec hi
    have := (hL.on i h1).1 h2
    simp at this
  | succ fuel ih =>
    intro rem listed κ s a w hf hL hpan hpw hnd hself hpl hlow hs mv hfree hkf hH h
    constructor
    · intro hr
      cases rem with
      | nil => exact hK _ _ _ _ h hs mv
      | cons p rem =>
        exfalso
        have hmem : p.1 ∈ Region.ready .any ops listed := by
          have hlt := hL.lt p (by simp)
          refine mem_ready hlt ((hL.on _ hlt).2 (by simp)) ?_
          intro q hq
          have hql := hpl p (by simp) q hq
          cases hb : listed.getD q true with
          | true => rw [getD_tf (by rw [hL.size]; exact hql) false true]; exact hb
          | false =>
            exfalso
            have := (hL.on q hql).1 hb
            simp only [List.map_cons, List.mem_cons] at this
            rcases this with e | hm
            · rw [e] at hq; exact hself p (by simp) hq
            · obtain ⟨y, hy, rfl⟩ := List.mem_map.1 hm
              exact ((List.pairwise_cons.1 hpw).1 y hy).2 hq
        rw [hr] at hmem; cases hmem
    · intro i hi
      obtain ⟨h1, h2, h3⟩ := ready_spec hi
      obtain ⟨p, hp, rfl⟩ := List.mem_map.1 ((hL.on i h1).1 h2)
      obtain ⟨L1, L2, rfl⟩ := List.append_of_mem hp
      obtain ⟨i, o⟩ := p
      simp only at h1 h2 h3 hi ⊢
      -- what the operation waits for is listed
      have hprl : ∀ q ∈ preds ops i, listed.getD q true = true := by
        intro q hq
        have hql := hpl (i, o) (by simp) q hq
        rw [← getD_tf (by rw [hL.size]; exact hql) false true]; exact h3 q hq
      have hwait : ∀ x, anc tab i x = true → x ∉ (L1 ++ (i, o) :: L2).map (·.1) := by
        intro x hx hm
        obtain ⟨q, hq, e | e⟩ := ancOK_spec hanc i x h1 hx
        · subst e
          have hql := hpl (i, o) (by simp) q hq
          have := (hL.on q hql).2 hm
          rw [hprl q hq] at this; cases this
        · exact hL.down q x (hpl (i, o) (by simp) q hq) (hprl q hq) e hm
      have hsplit := List.pairwise_append.1 hpw
      have hfirst : ∀ x ∈ L1, indepX x.2 o = true := by
        intro x hx
        rcases (hsplit.2.2 x hx (i, o) (by simp)).1 with e | e
        · exact absurd (by simp only [List.map_append, List.mem_append]; exact .inl (List.mem_map_of_mem hx)) (hwait _ e)
        · exact e
      have hav : ∀ x ∈ L1, x.2.cls = 3 → avoids o s.regs (ν x.1) := by
        intro x hx hc t ht B p hr e
        have hk0 := (hkf x (by simp [hx])).resolve_left (by rw [noid_cls3 hc]; simp)
        have hv := hs.regs t
        rw [hr] at hv
        obtain ⟨k, hk, _⟩ := vr_ptr hv
        rw [e, hk0.1] at hk
        cases hk
      have h' := take_first hν hQp L1 s hfirst hnd (hpan.imp id fun hh x hx => (List.pairwise_append.1 hh).2.2 x hx (i, o) (by simp)) hfree hav h
      obtain ⟨oc, lo, ho, hlo, hfl⟩ := hlow (i, o) (by simp)
      have hnf : ∀ n x, lo.op ≠ .fl n x := by
        intro n x e
        unfold lowO at hlo
        split at hlo
        · rename_i q hq
          split at hlo <;> cases hlo
          simp only at e
          subst e
          rcases lowOp_cases hq with ⟨_, e, _⟩ | ⟨_, e, _⟩ | ⟨_, _, _, _, _, _, _, _, e⟩ | ⟨_, _, _, _, e⟩ | ⟨_, _, _, _, _, _, _, _, e⟩ <;> cases e
        · cases hlo
      have hnl : o.noid = true → lo.noid = true := by
        rcases hfl with e | e
        · subst e; exact id
        · intro h0
          rcases freeL_cases lo with c | ⟨x, c, _⟩ | ⟨n, x, c, _⟩
          · rw [c] at e; subst e; exact h0
          · unfold LOper.noid; rw [c]; rfl
          · unfold LOper.noid; rw [c]; rfl
      have nf : lo.noid = true ∨ (s.mem.get (ν i) = none ∧ ν i < s.mem.next) := (hfree (i, o) (by simp)).imp hnl id
      have nk : lo.noid = true ∨ (κ (ν i) = none ∧ M₀.next ≤ ν i) := (hkf (i, o) (by simp)).imp hnl id
      have hsub0 : ∀ q ∈ L1 ++ L2, q ∈ L1 ++ (i, o) :: L2 := fun q hq => ((List.Sublist.refl L1).append (List.sublist_cons_self _ _)).subset hq
      have hne0 : ∀ q ∈ L1 ++ L2, q.1 ≠ i := by
        intro q hq e
        have hn := hnd
        simp only [List.map_append, List.map_cons] at hn
        obtain ⟨n1, n2, n3⟩ := List.nodup_append.1 hn
        rcases List.mem_append.1 hq with hq | hq
        · exact n3 q.1 (List.mem_map_of_mem hq) i (by simp) e
        · exact (List.nodup_cons.1 n2).1 (by rw [← e]; exact List.mem_map_of_mem hq)
      have hT : Holds ((L1 ++ L2).flatMap fun q => R q.1) s.mem := by
        intro x hx
        obtain ⟨q, hq, hx⟩ := List.mem_flatMap.1 hx
        exact hH q (hsub0 q hq) x hx
      have hTS : ∀ x ∈ (L1 ++ L2).flatMap fun q => R q.1, x ∈ S i := by
        intro x hx
        obtain ⟨q, hq, hx⟩ := List.mem_flatMap.1 hx
        refine hRS i q.1 (hne0 q hq) ?_ x hx
        cases ha : anc tab i q.1 with
        | false => rfl
        | true => exact absurd (List.mem_map_of_mem (hsub0 q hq)) (hwait _ ha)
      obtain ⟨hA, hnd'⟩ := aopD1_down hfl hnf (hH (i, o) (by simp)) hT hTS (nf.imp id And.left) h'
      have key := aop1_sound (Kc := wpAnyIn (FW crd) 0 P .any ops Qc fuel (listed.setIfInBounds i true)) (Qc := Qc) hlo hdst hs (nf.imp id And.right) (nk.imp id And.left) (.inr hnd' : crd = none ∨ _) hA ?_ ?_
      · unfold wpOpIn
        rw [ho]
        exact key
      · rintro a' w' ⟨κ', s', ⟨g0, g1⟩, g2, g3, g4, g5⟩
        have hsub : (L1 ++ L2).Sublist (L1 ++ (i, o) :: L2) := (List.Sublist.refl L1).append (List.sublist_cons_self _ _)
        have hsubm : ∀ q ∈ L1 ++ L2, q ∈ L1 ++ (i, o) :: L2 := fun q hq => hsub.subset hq
        have hne : ∀ q ∈ L1 ++ L2, q.1 ≠ i := by
          intro q hq e
          have hn := hnd
          simp only [List.map_append, List.map_cons] at hn
          obtain ⟨n1, n2, n3⟩ := List.nodup_append.1 hn
          rcases List.mem_append.1 hq with hq | hq
          · exact n3 q.1 (List.mem_map_of_mem hq) i (by simp) e
          · exact (List.nodup_cons.1 n2).1 (by rw [← e]; exact List.mem_map_of_mem hq)
        have hnext := mv.st.own.next
        have mv' : Mv κ₀ M₀ w₀ κ' s'.mem w' := by
          refine ⟨mv.st.trans g3, ⟨fun B hB => ?_, fun B hB hn => ?_⟩⟩
          · rw [g4 B (by omega) (nk.elim .inr fun h => .inl (by have := h.2; show B ≠ ν i + 0; simp; omega))]; exact mv.keep.kap B hB
          · exact g5 B (by omega) (nk.elim .inr fun h => .inl (by have := h.2; show B ≠ ν i + 0; simp; omega)) (mv.keep.hole B hB hn)
        refine ih (L1 ++ L2) (listed.setIfInBounds i true) κ' s' a' w' ?_ ?_ (hpan.imp id fun hh => hh.sublist hsub) (hpw.sublist hsub) (hnd.sublist (hsub.map _)) (fun q hq => hself q (hsubm q hq)) (fun q hq => hpl q (hsubm q hq)) (fun q hq => hlow q (hsubm q hq)) g2 mv' ?_ ?_ (fun q hq x hx => g0 x (List.mem_flatMap.2 ⟨q, hq, hx⟩)) g1
        · simp only [List.length_append, List.length_cons] at hf ⊢; omega
        · have gd : ∀ j, j < ops.size → (listed.setIfInBounds i true).getD j true = if j = i then true else listed.getD j true := by
            intro j hj
            have hj' : j < listed.size := by rw [hL.size]; exact hj
            by_cases e : j = i
            · subst e; simp [Array.getD, hj']
            · simp [Array.getD, hj', e, Ne.symm e]
          refine ⟨by simpa using hL.size, ?_, fun q hq => hL.lt q (hsubm q hq), ?_⟩
          · intro j hj
            rw [gd j hj]
            by_cases e : j = i
            · subst e
              simp only [if_true, Bool.true_eq_false, false_iff]
              intro hm
              obtain ⟨q, hq, e⟩ := List.mem_map.1 hm
              exact hne q hq e
            · rw [if_neg e, hL.on j hj]
              simp [e]
          · intro z x hz hl ha hm
            rw [gd z hz] at hl
            have hm' : x ∈ (L1 ++ (i, o) :: L2).map (·.1) := by
              obtain ⟨q, hq, e⟩ := List.mem_map.1 hm
              exact List.mem_map.2 ⟨q, hsubm q hq, e⟩
            by_cases e : z = i
            · subst e; exact hwait x ha hm'
            · rw [if_neg e] at hl; exact hL.down z x hz hl ha hm'
        · intro q hq
          rcases hfree q (hsubm q hq) with b0 | ⟨b1, b2⟩
          · exact .inl b0
          · exact .inr ⟨g5 _ b2 (.inl fun e => hne q hq (hν _ _ e)) b1, by have := g3.own.next; omega⟩
        · intro q hq
          rcases hfree q (hsubm q hq) with b0 | ⟨b1, b2⟩
          · exact .inl b0
          · rcases hkf q (hsubm q hq) with b0 | ⟨b3, b4⟩
            · exact .inl b0
            · exact .inr ⟨by rw [g4 _ b2 (.inl fun e => hne q hq (hν _ _ e))]; exact b3, b4⟩
      · rintro chain w' ⟨κ', s', v, V, h1, h2, h3, h4, h5⟩
        exact hQ _ _ _ ⟨κ', s', v, V, h1, h2, h3, h4, mv.trans h5⟩
end
end Go.A
end
