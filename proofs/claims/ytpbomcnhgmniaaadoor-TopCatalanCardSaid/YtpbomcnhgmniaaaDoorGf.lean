/- Deferred calls that do nothing; an entry; from a call to the row. -/
import Derived.Test.YtpbomcnhgmniaaaDoorGe
import Derived.RecoverIn
import Derived.Lib.Bytealg
import Derived.Laws.Externs
import Derived.Test.YtpbomcnhgmniaaaDoorGd
import Derived.Below
section
namespace Go.A
/-- Entered as a deferred call of a frame that is returning, a function does nothing. -/
def roomF (P : Program) (g : FuncId) : Nat := match P.funcs[g]? with | some fn => fn.ntmps | none => 0
def IdleF (P : Program) (g : FuncId) : Prop := enters P g = true ∧ ∀ (V : Array Value), V.size ≤ roomF P g → ∀ (κ : Kap) (M : Mem) (w : World), Rel κ M w → CallsDIn (FW none) 0 P g V .returning w fun e u' w' => (∃ v, e = .returned v) ∧ u' = .returning ∧ ∃ κ', Mv κ M w κ' M w'
def Idle (P : Program) : ADef → Prop
  | .call (.fn (.func g) l c) a => IdleF P g ∧ (l ++ a).length + c.length ≤ roomF P g
  | _ => False
def bodyI (P : Program) (rs : List LRes) (Q : AOut → Mem → Prop) : AExit → St → Prop
  | .normal, s | .ret, s => (∀ d ∈ s.dfr, Idle P d) ∧ match resvs s rs with
    | some l => Q (.ret (outv l)) s.mem
    | none => False
  | _, _ => False
section
variable {P : Program}
theorem invoke_enter {g : FuncId} (he : enters P g = true) (C A : Array Value) (w : World) : (invoke (.fn (.func g) C) A).run P w = .ok (.enter g (A ++ C)) w := by
  unfold enters at he
  simp only [invoke, callFunc, Sem.run_bind, run_program, Result.andThen_ok]
  cases hf : P.funcs[g]? with
  | none => rw [hf] at he; cases he
  | some fn =>
    rw [hf] at he
    simp only [Bool.and_eq_true, Bool.not_eq_true'] at he
    have hn : fn.body.isNone = false := by cases hb : fn.body <;> simp_all
    simp [he.2, hn]
theorem leaves_idle {fn : Func} {tmps : Array Value} {R : Ending → World → Prop} {M : Mem} : ∀ {ds : List ADef} {D : List Deferred} {κ : Kap} {w : World}, (∀ d ∈ ds, Idle P d) → L2 (DefR κ) ds D → Rel κ M w →
    (∀ κ' w', Mv κ M w κ' M w' → LeavesIn (FW none) 0 P fn tmps R [] .returning w') → LeavesIn (FW none) 0 P fn tmps R D .returning w
  | _, _, κ, w, _, .nil, hr, h => h κ w (Mv.refl hr)
  | d :: ds, D :: Ds, κ, w, hi, .cons hd hds, hr, h => by
    have h0 := hi d (by simp)
    cases hd with
    | mark r k h => exact h0.elim
    | call g l c args C A hc ha =>
      refine ⟨by simp, fun hh => by simp [Fence.wide] at hh, .func g, C, g, A ++ C, rfl, invoke_enter h0.1.1 C A w, fun _ _ => trivial, ?_⟩
      have e1 := ha.length
      have e2 := hc.length
      refine (h0.1.2 (A ++ C) (by have := h0.2; simp only [Array.size_append, Array.length_toList] at *; omega) κ M w hr).mono ?_
      rintro e u' w' ⟨⟨v, rfl⟩, rfl, κ', mv⟩
      refine leaves_idle (fun d hd => hi d (by simp [hd])) (hds.mono fun _ _ => DefR.mono mv.st.own.le) mv.st.rel ?_
      intro κ'' w'' mv'
      exact h κ'' w'' (mv.trans mv')
/-- A function that may defer calls that do nothing. -/
theorem of_bodyI {f : FuncId} {N : Nat} {hs : Hints} {fn : Func} {c : Code} {rs : List LRes} {args : List AV} {M : Mem} {Q : AOut → Mem → Prop} (hf : P.funcs[f]? = some fn) (hb : fn.body = some c) (hn : fn.ntmps = N)
    (hname : (fn.name == "runtime.NumGoroutine") = false) (hres : lowRes P fn.results.toList = some rs) (hargs : args.length ≤ N)
    (h : XW P N hs none (lowX P N hs c) (bodyI P rs Q) ⟨args0 args, M, []⟩) : CallF P f args M Q := by
  refine ⟨by unfold enters; rw [hf]; simp [hb, hname], ?_⟩
  intro κ w V hr hv
  have hl : args.length = V.size := by simpa using hv.length
  refine callsIn_wide (n := 0).1 (callsIn_of_wp_defers hf hb trivial ?_)
  have hs : StR κ N ⟨args0 args, M, []⟩ { tmps := V ++ Array.replicate (fn.ntmps - V.size) undef, defers := [] } w :=
    ⟨hr, by simp; omega, args_RR hv _, .nil⟩
  refine wpIn_mono (h c rfl κ w _ none hs trivial) ?_
  rintro e a' w' ⟨κ', ae, s', h1, h2, h3, h4⟩
  have fin : (∀ d ∈ s'.dfr, Idle P d) → (match resvs s' rs with | some l => Q (.ret (outv l)) s'.mem | none => False) → LeavesIn (FW none) 0 P fn a'.tmps (Post κ M w Q) a'.defers .returning w' := by
    intro hd hm
    refine leaves_idle hd h3.dfr h3.rel ?_
    intro κ'' w'' mv
    split at hm
    · rename_i l hl
      have h3' : StR κ'' N s' a' w'' := ⟨mv.st.rel, h3.size, h3.regs.mono mv.st.own.le, h3.dfr.mono fun _ _ => DefR.mono mv.st.own.le⟩
      obtain ⟨V, hV, hVr⟩ := results_run (P := P) h3' hres hl
      exact ⟨V, hV, κ'', .ret (outv l), s'.mem, hm, hVr, h4.trans mv⟩
    · exact hm.elim
  cases ae <;> cases e <;> simp only [ExR] at h2
  · exact fin h1.1 h1.2
  · exact h1.elim
  · exact h1.elim
  · exact fin h1.1 h1.2
  · exact h1.elim
end
end Go.A
end
section
namespace Go.E
open Go.A
structure EFI where
  init : IN
  nargs : Nat
  res : List ERes
  a : EC
  b : EC
  c : EC
  g : Nat
  k : Nat
def isDefer : List LOper → Option (Nat × Nat × Nat)
  | [⟨some t, none, .p (.mkf (.func g) [] xs)⟩, ⟨none, none, .defer (.t t') []⟩] => if t = t' then some (t, g, xs.length) else none
  | _ => none
def splitI (slots : List Nat) : XCode → Option (EC × EC × EC × Nat × Nat)
  | .seq x0 (.seq x1 (.seq (.reg l) r)) => match isDefer l with
    | some (t, g, k) => if slots.contains t then none else some (compC slots x0, compC slots x1, compC slots r, g, k)
    | none => none
  | _ => none
def mkI (P : Program) (f : FuncId) (nargs : Nat) (hs : Hints) (slots : List Nat) : Option EFI :=
  match P.funcs[f]? with
  | some fn => match fn.body with
    | some c => if fn.name == "runtime.NumGoroutine" || decide (fn.ntmps < nargs) then none else
      match lowRes P fn.results.toList with
      | some rs => match compRes slots rs, splitI slots (lowX P fn.ntmps hs c) with
        | some er, some (x, y, z, g, k) => some { init := inOf nargs slots ((slots.length + 7) / 8), nargs := nargs, res := er, a := x, b := y, c := z, g := g, k := k }
        | _, _ => none
      | none => none
    | none => none
  | none => none
noncomputable def runI (F : EFI) (H : HC) (args : List EV) (M : EM) (K : KM) : Bool :=
  EFI.rec (motive := fun _ => Bool) (fun init nargs res a b c _ _ =>
    bt (Nat.beq (lenL args) nargs) (initK init args fun env => evC a H env M (fun env M => evC b H env M (fun env M => evC c H env M (fun env M => retK res env M K) (fun i env M => Nat.rec (motive := fun _ => Bool) (retK res env M K) (fun _ _ => false) i)) (fun _ _ _ => false)) (fun _ _ _ => false)) false) F
section
variable {P : Program}
theorem isDefer_spec {l : List LOper} {t g k : Nat} (h : isDefer l = some (t, g, k)) : ∃ xs : List Opd, xs.length = k ∧ l = [⟨some t, none, .p (.mkf (.func g) [] xs)⟩, ⟨none, none, .defer (.t t) []⟩] := by
  unfold isDefer at h
  split at h
  · split at h <;> cases h
    rename_i e
    exact ⟨_, rfl, by rw [← e]⟩
  · cases h
theorem runI_sound (hmo : P.follows .mixedOrders = true) {f n : Nat} {hs : Hints} {slots : List Nat} {F : EFI} (hF : mkI P f n hs slots = some F) (hI : IdleF P F.g) (hk : F.k ≤ roomF P F.g) {H : HC} (hH : HSound P H) {args : List EV} {M : EM} {K : KM}
    (h : runI F H args M K = true) : CallF P f (EV.toAVs args) M.toMem (RetK K) := by
  unfold mkI at hF
  split at hF
  · rename_i fn hf
    split at hF
    · rename_i c hb
      split at hF
      · cases hF
      · rename_i hname
        split at hF
        · rename_i rs hres
          split at hF <;> cases hF
          rename_i er x y z g k her hsp
          have h' : bt (Nat.beq (lenL args) n) (initK (inOf n slots ((slots.length + 7) / 8)) args fun env => evC x H env M (fun env M => evC y H env M (fun env M => evC z H env M (fun env M => retK er env M K) (fun i env M => Nat.rec (motive := fun _ => Bool) (retK er env M K) (fun _ _ => false) i)) (fun _ _ _ => false)) (fun _ _ _ => false)) false = true := h
          replace h' := bt_spec h'; rcases h' with ⟨hle, h'⟩ | ⟨_, h'⟩
          · have hle := Nat.eq_of_beq_eq_true hle
            rw [lenL_eq] at hle
            simp only [Bool.or_eq_true, decide_eq_true_eq, not_or, Nat.not_lt] at hname
            obtain ⟨env, h1, h2⟩ := initK_spec hle h'
            refine of_bodyI (hs := hs) hf hb rfl (by simpa using hname.1) hres (by rw [toAVs_length]; omega) ?_
            unfold splitI at hsp
            split at hsp
            · rename_i x0 x1 l r hx
              split at hsp
              · rename_i t g' k' hd
                split at hsp
                · cases hsp
                · rename_i hnt
                  cases hsp
                  obtain ⟨xs, hxs, rfl⟩ := isDefer_spec hd
                  rw [hx]
                  refine XW.seq ?_
                  refine evC_sound (DP := fun l => l = []) hmo hH x0 env M _ _ _ _ ⟨fun i t hi => h2 i t (by have := lt_of_get hi; omega) hi, rfl, rfl⟩ h1 ?_ (fun _ _ _ _ _ h => by cases h) (fun _ _ _ _ h => by cases h)
                  intro env1 M1 s1 ha1 h1
                  refine XW.seq ?_
                  refine evC_sound (DP := fun l => l = []) hmo hH x1 env1 M1 _ _ _ _ ha1 h1 ?_ (fun _ _ _ _ _ h => by cases h) (fun _ _ _ _ h => by cases h)
                  intro env2 M2 s2 ha2 h2'
                  refine XW.seq ?_
                  refine XW.reg (.inl rfl) ?_
                  simp only [aopsN, aopN, aop1, LOper.noid, wantedA, pop, Opd.ev, St.put, List.map_nil, if_true]
                  refine evC_sound (DP := fun l => ∀ d ∈ l, Idle P d) hmo hH r env2 M2 _ _ _ _ ⟨?_, ha2.mem, ?_⟩ h2' ?_ ?_ ?_
                  · intro i u hi
                    have hne : u ≠ t := by
                      rintro rfl
                      exact hnt (by simpa using List.mem_of_getElem? hi)
                    simp only [if_neg hne]
                    exact ha2.agr i u hi
                  · intro d hd'
                    have hz : s2.dfr = [] := ha2.dfr
                    simp only [hz, List.mem_singleton] at hd'
                    subst hd'
                    exact ⟨hI, by simpa [hxs] using hk⟩
                  · intro env' M' s' ha hk
                    exact ⟨ha.dfr, retK_spec ha.agr ha.mem her hk⟩
                  · intro id env' M' s' ha hk
                    cases hk
                  · intro env' M' s' ha hk
                    exact ⟨ha.dfr, retK_spec ha.agr ha.mem her hk⟩
              · cases hsp
            · cases hsp
          · cases h'
        · cases hF
    · cases hF
  · cases hF
end
end Go.E
end
section
namespace Go.E
open Go.A
def recOp : Oper → Option Nat
  | ⟨some t, .call ⟨.builtin .recover, _, _⟩, _, _, _, none⟩ => some t
  | _ => none
def idleShape (P : Program) (g : Nat) : Option (Nat × Nat × POp × Nat) :=
  match P.funcs[g]? with
  | some fn => if fn.name == "runtime.NumGoroutine" then none else match fn.results.toList with
    | [] => match fn.body with
      | some (.seq (.region _ ops false) c2) => match ops.toList with
        | [o] => match recOp o with
          | some t => match lowX P fn.ntmps [] c2 with
            | .block _ (.seq (.reg [⟨some b, none, .p q⟩]) (.cond (.t b') (.reg [⟨some d, none, .p (.mv (.t _))⟩]) _)) => if b = b' ∧ t < fn.ntmps then some (t, b, q, d) else none
            | _ => none
          | none => none
        | _ => none
      | _ => none
    | _ => none
  | none => none
section
variable {P : Program}
theorem recOp_spec {o : Oper} {t : Nat} (h : recOp o = some t) : o.dst = some t ∧ o.guard = none ∧ ∃ as ts, o.op = .call ⟨.builtin .recover, as, ts⟩ := by
  unfold recOp at h
  split at h
  · cases h; exact ⟨rfl, rfl, _, _, rfl⟩
  · cases h
theorem idleF_of {g t b d : Nat} {q : POp} (h : idleShape P g = some (t, b, q, d)) (hq : ∀ ρ : Opd → AV, ρ (.t t) = .nilIfc → (∀ v, ρ (.c v) = v) → pop ρ q = some (.bool true)) : IdleF P g := by
  unfold idleShape at h
  split at h
  · rename_i fn hf
    split at h
    · cases h
    · rename_i hname
      split at h
      · rename_i hres
        split at h
        · rename_i i ops c2 hb
          split at h
          · rename_i o hops
            split at h
            · rename_i t' ho
              split at h
              · rename_i bl b1 q1 b2 d1 u r hx
                split at h
                · rename_i hc
                  obtain ⟨rfl, ht⟩ := hc
                  cases h
                  obtain ⟨hdst, hg, as, ts, hop⟩ := recOp_spec ho
                  refine ⟨by unfold enters; rw [hf]; simp [hb]; simpa using hname, ?_⟩
                  intro V hV κ M w hr
                  have hVn : V.size ≤ fn.ntmps := by simpa [roomF, hf] using hV
                  have hops' : ops = #[o] := by
                    apply Array.toList_inj.1; rw [hops]
                  refine callsDIn_of_wpSIn hf hb trivial ?_
                  intro c₀ cs hc₀
                  refine wpSIn_seq (wpSIn_region ?_)
                  subst hops'
                  have hrec : recoverD (c₀ :: cs) = none := by simp [recoverD, hc₀]
                  have hrun : ∀ (ρ : Operand → Value), (execOp ρ o).run P w = .ok .recover w := by
                    intro ρ
                    simp [execOp, hop, resolve, invoke]
                    rfl
                  have hw : ∀ y, Region.wanted o y = true := by
                    intro y; unfold Region.wanted; rw [hg]
                  have hrange : List.range (#[o] : Array Oper).size = [0] := rfl
                  rw [hrange]
                  show wpOpsSIn (FW none) 0 P #[o] _ [0] _ (c₀ :: cs) w
                  simp only [wpOpsSIn, List.getElem?_toArray, List.getElem?_cons_zero, hw, if_true, hrun, hrec]
                  refine ⟨fun _ _ => trivial, ?_⟩
                  have hnorm : ∀ (Q : Exit → Act → List Frame → World → Prop), Q = Q := fun _ => rfl
                  show Code.wpSIn (FW none) 0 P c2 _ _ (c₀ :: cs) w
                  refine wpSIn_of_wpIn rfl ?_
                  let s0 : St := ⟨fun x => if x = t then .nilIfc else .junk, M, []⟩
                  have hs0 : StR κ fn.ntmps s0 (Act.put { tmps := V ++ Array.replicate (fn.ntmps - V.size) undef, defers := [] } o.dst .nilIface) w := by
                    have h1 : StR κ fn.ntmps ⟨fun _ => .junk, M, []⟩ { tmps := V ++ Array.replicate (fn.ntmps - V.size) undef, defers := [] } w := ⟨hr, by simp; omega, fun _ => .junk _, .nil⟩
                    have h2 := h1.put (d := some t) (by rintro _ ⟨⟩; exact ht) (v := .nilIfc) (V := .nilIface) .nilIfc
                    rw [hdst]
                    exact h2
                  have hx2 : XW P fn.ntmps [] none (lowX P fn.ntmps [] c2) (fun e s => e = .normal ∧ s.mem = M ∧ s.dfr = []) s0 := by
                    rw [hx]
                    refine XW.block (XW.seq (XW.reg (.inl rfl) ?_))
                    simp only [aopsN, aopN, aop1, LOper.noid, wantedA, if_true]
                    rw [hq (fun x => x.ev s0.regs) (by simp [Opd.ev, s0]) (fun v => rfl)]
                    refine XW.cond (b := true) (by simp [Opd.ev, St.put]) (fun _ => XW.reg (.inl rfl) ?_) (fun h => by cases h)
                    simp only [aopsN, aopN, aop1, LOper.noid, wantedA, if_true, pop]
                    exact ⟨rfl, rfl, rfl⟩
                  refine wpIn_mono (hx2 c2 rfl κ w _ none hs0 trivial) ?_
                  rintro e a' w' ⟨κ', ae, s', ⟨rfl, h2, h3⟩, h4, h5, h6⟩
                  cases e <;> simp only [ExR] at h4
                  have hdf : a'.defers = [] := by
                    have := h5.dfr; rw [h3] at this; exact this.nil_left
                  obtain ⟨v, hv, _⟩ := results_run (P := P) h5 (fn := fn) (rs := []) (l := []) (by rw [hres]; rfl) rfl
                  refine ⟨hdf, .returning, ?_, v, hv, ⟨v, rfl⟩, rfl, κ', by have h7 := h6; rw [h2] at h7; exact h7⟩
                  cases c₀
                  simp only at hc₀
                  simp [hc₀]
                · cases h
              · cases h
            · cases h
          · cases h
        · cases h
      · cases h
  · cases h
end
end Go.E
end
section
namespace Go.E
open Go.A
noncomputable section
/-- The place of a byte in a packed string. -/
def findB (n : Nat) : Nat → Nat → Nat → (EV → Bool) → Bool :=
  Nat.rec (motive := fun _ => Nat → Nat → Nat → (EV → Bool) → Bool) (fun _ _ _ K => K (.oth (.int .i64 (.negSucc 0)))) (fun _ ih p c i K => bt (Nat.beq (Nat.mod p 256) c) (K (.nat i)) (forceN (Nat.div p 256) fun p => forceN (Nat.succ i) fun i => ih p c i K)) n
def hd2 (l : List EV) (k : EV → EV → Bool) : Bool :=
  List.rec (motive := fun _ => Bool) false (fun x r _ => List.rec (motive := fun _ => Bool) false (fun y r' _ => bt (isNilL r') (k x y) false) r) l
def extIB (f0 : Nat) (next : HC) : HC := fun f args M K =>
  bt (Nat.beq f f0) (hd2 args fun s c => s.strD (fun n p => c.bytD (fun c => bt (Nat.ble 256 c) false (findB n p c 0 fun v => K v M)) false) false) (next f args M K)
end
theorem hd2_spec {l : List EV} {k : EV → EV → Bool} (h : hd2 l k = true) : ∃ x y, l = [x, y] ∧ k x y = true := by
  match l, h with
  | [x, y], h => exact ⟨x, y, rfl, h⟩
theorem findB_spec {c : Nat} (hc : c < 256) : ∀ (n p i : Nat) {K : EV → Bool}, findB n p c i K = true → ∃ v : EV, K v = true ∧
    v.toAV = .int .i64 (if Lib.indexByte (unpack n p) (UInt8.ofNat c) = -1 then -1 else Lib.indexByte (unpack n p) (UInt8.ofNat c) + i)
  | 0, p, i, K, h => ⟨_, h, rfl⟩
  | n + 1, p, i, K, h => by
    have h' : bt (Nat.beq (Nat.mod p 256) c) (K (.nat i)) (forceN (Nat.div p 256) fun p => forceN (Nat.succ i) fun i => findB n p c i K) = true := h
    have hu : ∀ m, m < 256 → ((UInt8.ofNat m == UInt8.ofNat c) = true ↔ m = c) := by
      intro m hm
      rw [beq_iff_eq]
      constructor
      · intro e
        have := congrArg UInt8.toNat e
        simpa [Nat.mod_eq_of_lt hm, Nat.mod_eq_of_lt hc] using this
      · rintro rfl; rfl
    have hm : p % 256 < 256 := Nat.mod_lt _ (by decide)
    replace h' := bt_spec h'; rcases h' with ⟨e, h'⟩ | ⟨e, h'⟩
    · refine ⟨_, h', ?_⟩
      have e' : p % 256 = c := Nat.eq_of_beq_eq_true e
      have hb : (UInt8.ofNat (p % 256) == UInt8.ofNat c) = true := (hu _ hm).2 e'
      show AV.int .i64 i = _
      simp only [unpack, Lib.indexByte, hb, if_true]
      simp
    · rw [forceN_eq, forceN_eq] at h'
      obtain ⟨v, h1, h2⟩ := findB_spec hc n (p / 256) (i + 1) h'
      refine ⟨v, h1, ?_⟩
      have e' : ¬ p % 256 = c := by
        intro e2
        have : Nat.beq (p % 256) c = true := by rw [e2]; exact Nat.beq_refl c
        rw [show Nat.mod p 256 = p % 256 from rfl, this] at e
        cases e
      have hb : (UInt8.ofNat (p % 256) == UInt8.ofNat c) = false := by
        cases hh : (UInt8.ofNat (p % 256) == UInt8.ofNat c) with
        | false => rfl
        | true => exact absurd ((hu _ hm).1 hh) e'
      rw [h2]
      simp only [unpack, Lib.indexByte, hb]
      cases hq : (Lib.indexByte (unpack n (p / 256)) (UInt8.ofNat c) == -1) with
      | true =>
        have := beq_iff_eq.1 hq
        simp [this]
      | false =>
        have h3 : ¬ Lib.indexByte (unpack n (p / 256)) (UInt8.ofNat c) = -1 := by
          intro h4; rw [h4] at hq; cases hq
        have h5 := Lib.indexByte_ge (unpack n (p / 256)) (UInt8.ofNat c)
        have h6 : ¬ Lib.indexByte (unpack n (p / 256)) (UInt8.ofNat c) + 1 = -1 := by omega
        simp only [if_neg h3, Bool.false_eq_true, if_false, if_neg h6]
        congr 1; push_cast; omega
end Go.E
namespace Go.E
open Go.A
theorem extIB_sound {P : Program} {f0 : Nat} {fn : Func} (hf : P.funcs[f0]? = some fn) (hname : (fn.name == "runtime.NumGoroutine") = false) (hb : fn.body.isNone = true) (hn : Extern.findNext fn = none)
    (he : Extern.find fn = some Extern.BytealgIndexByte.indexByte) {next : HC} (hnx : HSound P next) : HSound P (extIB f0 next) := by
  intro f args M K h
  replace h := bt_spec h; rcases h with ⟨e, h⟩ | ⟨_, h⟩
  · obtain rfl := Nat.eq_of_beq_eq_true e
    obtain ⟨s, c, rfl, h⟩ := hd2_spec h
    replace h := strD_spec h; rcases h with ⟨n, p, rfl, h⟩ | h
    · replace h := bytD_spec h; rcases h with ⟨c, rfl, h⟩ | h
      · replace h := bt_spec h; rcases h with ⟨_, h⟩ | ⟨hc, h⟩
        · cases h
        · have hc' : c < 256 := ble_false hc
          obtain ⟨v, h1, h2⟩ := findB_spec hc' n p 0 h
          intro l a cc hl κ w Vf V hr hfv hv
          cases hfv with
          | fn _ _ _ L C hL hC =>
            refine ⟨_, rfl, ?_⟩
            have hall : VRs κ (EV.toAVs [.str n p, .byt c]) (L ++ V ++ C).toList := by
              rw [← hl]; simpa using (hL.append hv).append hC
            have hA : ∃ S : ByteArray, S.data.toList = unpack n p ∧ L ++ V ++ C = #[.string S, .int .u8 c] := by
              generalize L ++ V ++ C = A at hall
              obtain ⟨A⟩ := A
              simp only [EV.toAVs, EV.toAV] at hall
              cases hall with
              | cons _ _ _ _ h3 h4 =>
                cases h4 with
                | cons _ _ _ _ h5 h6 =>
                  cases h6
                  cases h3 with
                  | str _ S hS =>
                    cases h5
                    exact ⟨S, hS, rfl⟩
            obtain ⟨S, hS, hA⟩ := hA
            show InvR P κ M.toMem w _ ((callFunc f (L ++ V ++ C)).run P w)
            rw [hA, run_callFunc_extern hf hname hb hn he, Lib.run_indexByteString]
            refine ⟨κ, .ret v.toAV, M.toMem, ⟨v, M, rfl, rfl, h1⟩, ?_, Mv.refl hr⟩
            have hci : ((c : Int).toNat).toUInt8 = UInt8.ofNat c := rfl
            rw [h2, hS, hci]
            show VR κ _ (Value.int .i64 _)
            split
            · rename_i h3; rw [h3]; exact .int _ _
            · simp only [Int.natCast_zero, Int.add_zero]; exact .int _ _
      · cases h
    · cases h
  · exact hnx f args M K h
end Go.E
end
section
namespace Go.E
open Go.A
noncomputable def evPI (F : EFI) (H : HC) (ds rs : List Dat) : Bool := alsK ds ⟨.nil, 0⟩ fun args M => runI F H args M fun v M => resOK rs v M
theorem evPI_spec {P : Program} (hmo : P.follows .mixedOrders = true) {F : EFI} {f n : Nat} {h0 : Hints} {slots : List Nat} (hF : mkI P f n h0 slots = some F) (hI : IdleF P F.g) (hk : F.k ≤ roomF P F.g) {H : HC} {ds rs : List Dat} (hs : HSound P H)
    (h : evPI F H ds rs = true) : PureCall P f ds rs := by
  refine PureCall.of_canon ?_
  obtain ⟨args, M, h1, h2, h3⟩ := alsK_spec ds ⟨.nil, 0⟩ _ h
  have hm : (⟨.nil, 0⟩ : EM).toMem = mem0 := rfl
  rw [hm] at h2 h3
  rw [← h2, ← h3]
  refine (runI_sound hmo hF hI hk hs h1).mono ?_
  rintro out M' ⟨v, M₁, rfl, rfl, hk⟩
  obtain ⟨l, e, hr⟩ := resOK_spec hk
  exact ⟨l, by rw [e], hr⟩
/-- No call. -/
def extN : HC := fun _ _ _ _ => false
theorem extN_sound {P : Program} : HSound P extN := fun _ _ _ _ h => by cases h
def sq1 : EC → EC | .seq a _ => a | x => x
def sq2 : EC → EC | .seq _ a => a | x => x
end Go.E
namespace Go.E
open Go.A
def AllPE (P : Program) : List PE → Prop
  | [] => True
  | e :: l => PureCall P e.f e.ds e.rs ∧ AllPE P l
theorem AllPE.mem {P : Program} : ∀ {l : List PE}, AllPE P l → ∀ e ∈ l, PureCall P e.f e.ds e.rs
  | [], _, e, h => by cases h
  | x :: l, h, e, he => by
    rcases List.mem_cons.1 he with rfl | he
    · exact h.1
    · exact h.2.mem e he
end Go.E
end
section
namespace Go.E
open Go.A
theorem ibRem6 (w : Nat) (_hw : w < 256) (K : EV → Bool) : ibF .rem (.byt w) (.byt 6) K = K (.byt (w % 6)) := by
  have hp : pop (ρ2 (.byt w) (.byt 6)) (.ibin .rem (.t 0) (.t 1)) = some (.int .u8 ((w % 6 : Nat) : Int)) := by
    simp only [pop, ρ2, EV.toAV]
    simp [aibin]
    first | rfl | exact (Int.ofNat_tmod w 6).symm | (norm_cast)
  show gpF (ρ2 (.byt w) (.byt 6)) (.ibin .rem (.t 0) (.t 1)) K = _
  unfold gpF
  rw [hp]
  exact force_eq _ _
end Go.E
end
section
namespace Go.E
open Go.A
theorem calls_of_pure {P : Program} {f : FuncId} {w : Nat} {b : Bool} (h : PureCall P f [.v (.byt w)] [.v (.bool b)]) (W : World) :
    Calls P f #[.int .u8 w] W fun e W' => e = .returned (.bool b) ∧ RowKit.Below W.heap.size W W' := by
  have hr : Rel (fun _ => none) mem0 W := ⟨(fun _ _ h => by cases h), (fun _ _ _ _ _ _ h => by cases h), (fun _ _ => rfl), (fun _ _ h => by cases h)⟩
  have h1 := (h mem0 [.int .u8 w] (.cons _ _ _ _ (RdA.v (.byt w) rfl) RdAs.nil)).2 (fun _ => none) W #[.int .u8 w] hr (VRs.cons _ _ _ _ (VR.int _ _) VRs.nil)
  refine h1.mono ?_
  rintro e W' ⟨κ', out, M', ⟨rfl, rfl⟩, ho, mv⟩
  cases e with
  | returned v =>
    have hv : VR κ' (.bool b) v := ho
    cases hv
    exact ⟨rfl, mv.st.fr.os, mv.st.fr.tape, mv.st.fr.output, mv.st.fr.size, fun k hk => mv.st.fr.block k hk (fun B o k hB => by cases hB)⟩
  | panicked c => exact ho.elim
  | outgrown => exact ho.elim
end Go.E
end
