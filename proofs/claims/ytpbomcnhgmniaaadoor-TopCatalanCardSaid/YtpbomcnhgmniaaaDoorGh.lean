/- Calls, regions, functions: part 2. -/
import Derived.Test.YtpbomcnhgmniaaaDoorGc
section
namespace Go.A
/-- But for block id, what is not there stays away. -/
structure Loc (id : Nat) (M M' : Mem) : Prop where
  next : M'.next = M.next
  hole : ∀ B, B ≠ id → M.get B = none → M'.get B = none
theorem Loc.refl (id : Nat) (M : Mem) : Loc id M M := ⟨rfl, fun _ _ h => h⟩
theorem Loc.new (id : Nat) (M : Mem) (o : AObj) : Loc id M (M.set id o) := ⟨rfl, fun B hB h => by rw [Mem.set_ne _ _ hB]; exact h⟩
theorem Loc.turn (id : Nat) {M : Mem} {b : Nat} {x o : AObj} (hb : M.get b = some x) : Loc id M (M.set b o) := ⟨rfl, fun B _ h => by
  rw [Mem.set_get]; split
  · rename_i e; subst e; rw [hb] at h; cases h
  · exact h⟩
theorem Loc.wrs (id : Nat) {M M' : Mem} {b o : Nat} {l : List AV} (h : M.wrs b o l = some M') : Loc id M M' := by
  unfold Mem.wrs at h
  split at h
  · rename_i cs hb
    split at h <;> cases h
    exact Loc.turn id hb
  · cases h
theorem Loc.renew (id : Nat) (M : Mem) (b : Nat) (o : AObj) : Loc id M ((M.del b).set id o) := ⟨rfl, fun B hB h => by
  rw [Mem.set_ne _ _ hB, Mem.del_get]; split
  · rfl
  · exact h⟩
theorem aapp_loc {id es bytes : Nat} {M M' : Mem} {x : AV} {n : Nat} {l : List AV} {v : AV} (h : aapp id es bytes M x n l = some (v, M')) : Loc id M M' := by
  unfold aapp at h
  split at h
  · split at h
    · cases h; exact Loc.refl _ _
    · split at h <;> cases h
      exact Loc.new _ _ _
  · split at h
    · split at h
      · cases h; exact Loc.refl _ _
      · split at h
        · split at h
          · split at h
            · split at h
              · simp only [Option.map_eq_some_iff] at h
                obtain ⟨M₂, hw, h⟩ := h
                cases h
                exact Loc.wrs _ hw
              · cases h; exact Loc.new _ _ _
            · split at h
              · simp only [Option.map_eq_some_iff] at h
                obtain ⟨M₂, hw, h⟩ := h
                cases h
                exact Loc.wrs _ hw
              · split at h <;> cases h
                exact Loc.renew _ _ _ _
          · cases h
        · cases h
    · cases h
  · cases h
theorem mop_loc {id : Nat} {ρ : Opd → AV} {M M' : Mem} {q : MOp} {v : AV} (h : mop id ρ M q = some (v, M')) : Loc id M M' := by
  cases q with
  | box x => simp only [mop] at h; split at h <;> cases h; exact Loc.new _ _ _
  | zal z => simp only [mop] at h; cases h; exact Loc.new _ _ _
  | bsl n es zero parts => simp only [mop] at h; split at h <;> (try split at h) <;> cases h; exact Loc.new _ _ _
  | load x =>
    simp only [mop] at h
    split at h
    · simp only [Option.map_eq_some_iff] at h; obtain ⟨_, _, h⟩ := h; cases h; exact Loc.refl _ _
    · cases h
  | loadn n x =>
    simp only [mop] at h
    split at h
    · simp only [Option.map_eq_some_iff] at h; obtain ⟨_, _, h⟩ := h; cases h; exact Loc.refl _ _
    · cases h
  | store n a x =>
    simp only [mop] at h
    split at h
    · split at h
      · simp only [Option.map_eq_some_iff] at h; obtain ⟨_, hw, h⟩ := h; cases h; exact Loc.wrs _ hw
      · cases h
    · cases h
  | mkm => simp only [mop] at h; cases h; exact Loc.new _ _ _
  | mks es bytes zero l c => simp only [mop] at h; split at h <;> (try split at h) <;> cases h; exact Loc.new _ _ _
  | sla n es lo hi x => simp only [mop] at h; split at h <;> (try split at h) <;> (try split at h) <;> cases h; exact Loc.refl _ _
  | look kt zero ok m k =>
    simp only [mop] at h
    split at h
    · cases h
    · split at h
      · split at h <;> cases h <;> exact Loc.refl _ _
      · cases h
  | mup kt m k x =>
    simp only [mop] at h
    split at h
    · cases h
    · split at h
      · split at h
        · rename_i hB
          split at h
          · split at h
            · split at h <;> cases h
              exact Loc.turn _ hB
            · cases h
          · cases h; exact Loc.turn _ hB
          · cases h
        · cases h
      · cases h
  | men kt zero m k =>
    simp only [mop] at h
    split at h
    · cases h
    · split at h
      · split at h
        · rename_i hB
          split at h
          · split at h
            · split at h <;> cases h
              exact Loc.refl _ _
            · cases h
          · cases h; exact Loc.turn _ hB
          · cases h
        · cases h
      · cases h
  | mst m s x =>
    simp only [mop] at h
    split at h
    · split at h
      · rename_i hB
        split at h <;> cases h
        exact Loc.turn _ hB
      · cases h
    · cases h
  | lenm m => simp only [mop] at h; split at h <;> cases h; exact Loc.refl _ _
  | app es bytes x y =>
    simp only [mop] at h
    split at h
    · split at h
      · exact aapp_loc h
      · cases h
    · cases h
  | cpy es x y =>
    simp only [mop] at h
    split at h
    · split at h <;> cases h <;> exact Loc.refl _ _
    · split at h
      · split at h
        · cases h; exact Loc.refl _ _
        · split at h
          · split at h
            · cases h; exact Loc.refl _ _
            · split at h
              · split at h
                · simp only [Option.map_eq_some_iff] at h; obtain ⟨_, hw, h⟩ := h; cases h; exact Loc.wrs _ hw
                · cases h
              · cases h
          · cases h
        · split at h
          · split at h
            · cases h; exact Loc.refl _ _
            · simp only [Option.map_eq_some_iff] at h; obtain ⟨_, hw, h⟩ := h; cases h; exact Loc.wrs _ hw
          · cases h
        · cases h
      · cases h
    · cases h
  | b2s x =>
    simp only [mop] at h
    split at h
    · cases h; exact Loc.refl _ _
    · split at h
      · split at h
        · cases h; exact Loc.refl _ _
        · split at h
          · simp only [Option.map_eq_some_iff] at h; obtain ⟨_, _, h⟩ := h; cases h; exact Loc.refl _ _
          · cases h
      · cases h
    · cases h
  | s2b x => simp only [mop] at h; split at h <;> (try split at h) <;> cases h; exact Loc.new _ _ _
  | rng x => simp only [mop] at h; split at h <;> cases h; exact Loc.new _ _ _
  | nxt x =>
    simp only [mop] at h
    split at h
    · split at h
      · rename_i hB
        split at h <;> cases h
        · exact Loc.turn _ hB
        · exact Loc.refl _ _
      · cases h
    · cases h
theorem mop_noid {q : MOp} (h : q.noid = true) (id id' : Nat) (ρ : Opd → AV) (M : Mem) : mop id ρ M q = mop id' ρ M q := by
  cases q <;> first | rfl | (simp [MOp.noid] at h)
theorem mop_hole {id : Nat} {ρ : Opd → AV} {M M' : Mem} {q : MOp} {v : AV} (h : mop id ρ M q = some (v, M')) (B : Nat) (hB : B ≠ id ∨ q.noid = true) (hn : M.get B = none) : M'.get B = none := by
  rcases hB with hB | hB
  · exact (mop_loc h).hole B hB hn
  · rw [mop_noid hB id (B + 1)] at h
    exact (mop_loc h).hole B (by omega) hn
section
variable {P : Program}
theorem semAt_of {o : Oper} {ρc : Operand → Value} {rd : Option Nat} (h : rd = none ∨ ∀ c, o.op ≠ .defer c) : o.semAt rd ρc = execOp ρc o := by
  unfold Oper.semAt
  cases rd with
  | none => rfl
  | some l =>
    rcases h with h | h
    · cases h
    · cases ho : o.op <;> first | rfl | exact absurd ho (h _)
end
end Go.A
end
