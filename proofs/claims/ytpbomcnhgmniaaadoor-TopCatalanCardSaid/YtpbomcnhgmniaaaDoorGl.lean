/- Calls, regions, functions: part 6. -/
import Derived.Test.YtpbomcnhgmniaaaDoorGk
section
namespace Go.A
inductive LRes where
  | tmp (t : Nat)
  | cell (t : Nat) (n : Option Nat)
  deriving Inhabited
def lowRes (P : Program) : List ResultVar → Option (List LRes)
  | [] => some []
  | .tmp t :: r => (lowRes P r).map (.tmp t :: ·)
  | .cell a t :: r => match P.underlying t, P.info? t, lowRes P r with
    | some d, some i, some l => some (.cell a (if aggD d then some i.size else none) :: l)
    | _, _, _ => none
def resv (s : St) : LRes → Option AV
  | .tmp t => some (s.regs t)
  | .cell t none => match s.regs t with
    | .ptr b o => s.mem.rd b o
    | _ => none
  | .cell t (some n) => match s.regs t with
    | .ptr b o => (s.mem.rdn b o n).map .agg
    | _ => none
def resvs (s : St) : List LRes → Option (List AV)
  | [] => some []
  | x :: r => match resv s x, resvs s r with
    | some v, some l => some (v :: l)
    | _, _ => none
def outv : List AV → AV
  | [v] => v
  | l => .tup l
/-- What a body's walk has to come to (nothing is deferred). -/
def bodyQ (rs : List LRes) (Q : AOut → Mem → Prop) : AExit → St → Prop
  | .normal, s | .ret, s => s.dfr = [] ∧ match resvs s rs with
    | some l => Q (.ret (outv l)) s.mem
    | none => False
  | .panic v, s => s.dfr = [] ∧ Q (.panic v) s.mem
  | _, _ => False
/-- A function as it is walked. -/
structure LFn where
  ntmps : Nat
  res : List LRes
  body : LCode
/-- The function f of the program is walked so. -/
def IsFn (P : Program) (f : FuncId) (F : LFn) : Bool :=
  match P.funcs[f]? with
  | some fn => match fn.body with
    | some _c => decide (fn.ntmps = F.ntmps) && !(fn.name == "runtime.NumGoroutine")
    | none => false
  | none => false
def Low (P : Program) (f : FuncId) (F : LFn) : Prop :=
  ∃ fn c, P.funcs[f]? = some fn ∧ fn.body = some c ∧ fn.ntmps = F.ntmps ∧ (fn.name == "runtime.NumGoroutine") = false ∧ lowC P fn.ntmps c = some F.body ∧ lowRes P fn.results.toList = some F.res
def args0 (args : List AV) : Nat → AV := fun i => match args[i]? with
  | some v => v
  | none => .tup []
section
variable {P : Program}
theorem L2.nil_left {α β : Type} {R : α → β → Prop} {m : List β} (h : L2 R [] m) : m = [] := by cases h; rfl
theorem args_RR {κ : Kap} {args : List AV} {V : Array Value} (h : VRs κ args V.toList) (n : Nat) : RR κ (args0 args) (V ++ Array.replicate n undef) := by
  intro i
  have hl : args.length = V.size := by simpa using h.length
  unfold args0
  split
  · rename_i v hv
    obtain ⟨U, hU, hr⟩ := h.get hv
    have hU' : V[i]? = some U := by simpa using hU
    have hi : i < V.size := by
      rcases Nat.lt_or_ge i V.size with h | h
      · exact h
      · rw [Array.getElem?_eq_none h] at hU'; cases hU'
    rw [Array.getD_eq_getD_getElem?, Array.getElem?_append_left hi, hU']
    exact hr
  · rename_i hv
    have hi : V.size ≤ i := by
      rw [← hl]
      exact List.getElem?_eq_none_iff.1 hv
    rw [Array.getD_eq_getD_getElem?, Array.getElem?_append_right hi, Array.getElem?_replicate]
    split <;> exact .tup _ _ .nil
theorem results_sound {κ : Kap} {N : Nat} {s : St} {a : Act} {w : World} (h : StR κ N s a w) : ∀ (rv : List ResultVar) (rs : List LRes) (l : List AV), lowRes P rv = some rs → resvs s rs = some l →
    ∃ L : List Value, (rv.mapM (m := Sem) fun
      | .tmp t => pure (a.tmps.getD t undef)
      | .cell x t => do loadVar t (← asAddr (a.tmps.getD x undef))).run P w = .ok L w ∧ VRs κ l L
  | [], rs, l, h1, h2 => by
    simp [lowRes] at h1; subst h1
    simp [resvs] at h2; subst h2
    exact ⟨[], by simp, .nil⟩
  | .tmp t :: r, rs, l, h1, h2 => by
    simp only [lowRes, Option.map_eq_some_iff] at h1
    obtain ⟨rs', hrs, rfl⟩ := h1
    simp only [resvs, resv] at h2
    split at h2 <;> cases h2
    rename_i v l' hv hl'
    cases hv
    obtain ⟨L, hL, hv⟩ := results_sound h r rs' l' hrs hl'
    exact ⟨_ :: L, by simp only [List.mapM_cons, Sem.run_bind, Sem.run_pure, Result.andThen_ok, hL], .cons _ _ _ _ (h.regs t) hv⟩
  | .cell x t :: r, rs, l, h1, h2 => by
    simp only [lowRes] at h1
    split at h1 <;> cases h1
    rename_i d i rs' hd hi hrs
    simp only [resvs] at h2
    split at h2 <;> cases h2
    rename_i v l' hv hl'
    obtain ⟨L, hL, hvs⟩ := results_sound h r rs' l' hrs hl'
    have hr := h.regs x
    by_cases hg : aggD d = true
    · rw [if_pos hg] at hv
      simp only [resv] at hv
      split at hv
      · rename_i b o hb
        rw [hb] at hr
        obtain ⟨k, hk, e⟩ := vr_ptr hr
        simp only [Option.map_eq_some_iff] at hv
        obtain ⟨u, hu, rfl⟩ := hv
        obtain ⟨L', g1, g2, g3⟩ := h.rel.rdn (P := P) hu hk
        refine ⟨.agg L'.toArray :: L, ?_, .cons _ _ _ _ (.agg _ _ (by simpa using g2)) hvs⟩
        have hone : ((Sem.run P (asAddr (a.tmps.getD x undef)) w).andThen fun a w' => Sem.run P (loadVar t a) w') = .ok (.agg L'.toArray) w := by
          rw [e]
          simp only [asAddr, Sem.run_pure, Result.andThen_ok, loadVar, Sem.run_bind, run_agg hd, hg, if_true, run_size hi, g3]
        simp only [List.mapM_cons, Sem.run_bind, Sem.run_pure, hone, Result.andThen_ok, hL]
      · cases hv
    · have hg' : aggD d = false := by simpa using hg
      rw [if_neg hg] at hv
      simp only [resv] at hv
      split at hv
      · rename_i b o hb
        rw [hb] at hr
        obtain ⟨k, hk, e⟩ := vr_ptr hr
        obtain ⟨U, hU, hUr⟩ := h.rel.rd hv hk
        refine ⟨U :: L, ?_, .cons _ _ _ _ hUr hvs⟩
        have hone : ((Sem.run P (asAddr (a.tmps.getD x undef)) w).andThen fun a w' => Sem.run P (loadVar t a) w') = .ok U w := by
          rw [e]
          simp only [asAddr, Sem.run_pure, Result.andThen_ok, loadVar, Sem.run_bind, run_agg hd, hg', Bool.false_eq_true, if_false, run_load, hU]
        simp only [List.mapM_cons, Sem.run_bind, Sem.run_pure, hone, Result.andThen_ok, hL]
      · cases hv
theorem results_run {κ : Kap} {N : Nat} {s : St} {a : Act} {w : World} (h : StR κ N s a w) {fn : Func} {rs : List LRes} {l : List AV} (h1 : lowRes P fn.results.toList = some rs) (h2 : resvs s rs = some l) :
    ∃ V, (results fn a.tmps).run P w = .ok V w ∧ VR κ (outv l) V := by
  obtain ⟨L, hL, hv⟩ := results_sound (P := P) h fn.results.toList rs l h1 h2
  have hm : (fn.results.mapM (m := Sem) fun
      | .tmp t => pure (a.tmps.getD t undef)
      | .cell x t => do loadVar t (← asAddr (a.tmps.getD x undef))).run P w = .ok L.toArray w := by
    rw [Array.mapM_eq_mapM_toList]
    simp only [Sem.run_map, hL, Result.andThen_ok]
  refine ⟨if h : L.toArray.size = 1 then L.toArray[0] else .tuple L.toArray, ?_, ?_⟩
  · simp only [results, Sem.run_bind, Sem.run_pure]
    exact congrArg (fun (r : Result (Array Value)) => r.andThen fun a w' => Result.ok (if h : a.size = 1 then a[0] else Value.tuple a) w') hm
  · cases hv with
    | nil => simp [outv]; exact .tup _ _ .nil
    | cons v V l L hV hs =>
      cases hs with
      | nil => simp [outv]; exact hV
      | cons v' V' l' L' hV' hs' =>
        simp [outv]
        exact .tup _ _ (by simpa using .cons _ _ _ _ hV (.cons _ _ _ _ hV' hs'))
theorem CallF.of_body {f : FuncId} {F : LFn} {args : List AV} {M : Mem} {Q : AOut → Mem → Prop} (hF : Low P f F) (hargs : args.length ≤ F.ntmps) (h : LW P F.ntmps none F.body (bodyQ F.res Q) ⟨args0 args, M, []⟩) : CallF P f args M Q := by
  obtain ⟨fn, c, hf, hb, hn, hname, hlow, hres⟩ := hF
  refine ⟨by unfold enters; rw [hf]; simp [hb, hname], ?_⟩
  intro κ w V hr hv
  have hl : args.length = V.size := by simpa using hv.length
  refine callsIn_wide (n := 0).1 (callsIn_of_wp_defers hf hb trivial ?_)
  have hs : StR κ F.ntmps ⟨args0 args, M, []⟩ { tmps := V ++ Array.replicate (fn.ntmps - V.size) undef, defers := [] } w :=
    ⟨hr, by simp; omega, args_RR hv _, .nil⟩
  refine wpIn_mono (h c (by rw [← hn]; exact hlow) κ w _ none hs trivial) ?_
  rintro e a' w' ⟨κ', ae, s', h1, h2, h3, h4⟩
  have fin : s'.dfr = [] → (match resvs s' F.res with | some l => Q (.ret (outv l)) s'.mem | none => False) → LeavesIn (FW none) 0 P fn a'.tmps (Post κ M w Q) a'.defers .returning w' := by
    intro hd hm
    have hdd : a'.defers = [] := by
      have := h3.dfr; rw [hd] at this; exact this.nil_left
    rw [hdd]
    split at hm
    · rename_i l hl
      obtain ⟨V, hV, hVr⟩ := results_run (P := P) h3 hres hl
      exact ⟨V, hV, κ', .ret (outv l), s'.mem, hm, hVr, h4⟩
    · exact hm.elim
  cases ae <;> cases e <;> simp only [ExR] at h2
  · exact fin h1.1 h1.2
  · exact h1.elim
  · exact h1.elim
  · exact fin h1.1 h1.2
  · rename_i v chain
    obtain ⟨V, hc, hV⟩ := h2
    have hdd : a'.defers = [] := by
      have := h3.dfr; rw [h1.1] at this; exact this.nil_left
    show LeavesIn (FW none) 0 P fn a'.tmps (Post κ M w Q) a'.defers (.panicking chain) w'
    rw [hdd]
    exact ⟨κ', .panic v, s'.mem, h1.2, ⟨V, hc, hV⟩, h4⟩
end
end Go.A
end
