/- Calls, regions, functions: part 7. -/
import Derived.Test.YtpbomcnhgmniaaaDoorGl
section
namespace Go.A
def opdsO : Option Opd → List Opd
  | none => []
  | some x => [x]
def POp.opds : POp → List Opd
  | .mv x | .un _ x | .cint _ x | .cid x | .cis x | .mki _ x | .fad _ x | .fld _ _ _ x | .ext x _ | .nilck x | .lens x | .lenl x | .tas _ _ x => [x]
  | .pick c a b => [c, a, b]
  | .build _ ps => ps.map fun (_, _, x) => x
  | .ibin _ x y | .sbin _ x y | .eq _ _ x y | .iad _ x y | .iada _ _ x y | .ixs x y | .ixa _ _ _ x y | .mn x y | .mx x y => [x, y]
  | .mkf _ f c => f ++ c
  | .slc _ lo hi m3 x => x :: (opdsO lo ++ opdsO hi ++ opdsO m3)
  | .sls lo hi x => x :: (opdsO lo ++ opdsO hi)
  | .lena _ => []
def MOp.opds : MOp → List Opd
  | .box x | .load x | .loadn _ x | .lenm x | .b2s x | .s2b x | .rng x | .nxt x => [x]
  | .zal _ | .mkm => []
  | .bsl _ _ _ ps => ps.map fun (_, _, x) => x
  | .store _ a x => [a, x]
  | .mks _ _ _ l c => [l, c]
  | .sla _ _ lo hi x => x :: (opdsO lo ++ opdsO hi)
  | .look _ _ _ m k | .men _ _ m k => [m, k]
  | .mup _ m k v => [m, k, v]
  | .mst m s v => [m, s, v]
  | .app _ _ x y | .cpy _ x y => [x, y]
theorem opt_congr {ρ ρ' : Opd → AV} {x : Option Opd} (h : ∀ y ∈ opdsO x, ρ y = ρ' y) : x.map ρ = x.map ρ' := by
  cases x with
  | none => rfl
  | some y => simp [h y (by simp [opdsO])]
theorem pop_congr {ρ ρ' : Opd → AV} {q : POp} (h : ∀ x ∈ q.opds, ρ x = ρ' x) : pop ρ q = pop ρ' q := by
  cases q with
  | build z ps =>
    have : (ps.map fun (x : Nat × Nat × Opd) => (x.1, x.2.1, ρ x.2.2)) = ps.map fun (x : Nat × Nat × Opd) => (x.1, x.2.1, ρ' x.2.2) := by
      apply List.map_congr_left
      intro x hx
      rw [h x.2.2 (by simp only [POp.opds, List.mem_map]; exact ⟨x, hx, rfl⟩)]
    simp only [pop]
    exact congrArg (fun l => (afill z l).map AV.agg) this
  | mkf f a b =>
    have h1 : a.map ρ = a.map ρ' := List.map_congr_left fun x hx => h x (by simp [POp.opds, hx])
    have h2 : b.map ρ = b.map ρ' := List.map_congr_left fun x hx => h x (by simp [POp.opds, hx])
    simp only [pop, h1, h2]
  | slc es lo hi mx x =>
    have h1 := opt_congr (x := lo) fun y hy => h y (by simp [POp.opds, hy])
    have h2 := opt_congr (x := hi) fun y hy => h y (by simp [POp.opds, hy])
    have h3 := opt_congr (x := mx) fun y hy => h y (by simp [POp.opds, hy])
    have h4 := h x (by simp [POp.opds])
    simp only [pop, h1, h2, h3, h4]
  | sls lo hi x =>
    have h1 := opt_congr (x := lo) fun y hy => h y (by simp [POp.opds, hy])
    have h2 := opt_congr (x := hi) fun y hy => h y (by simp [POp.opds, hy])
    have h4 := h x (by simp [POp.opds])
    simp only [pop, h1, h2, h4]
  | lena n => rfl
  | _ => simp only [POp.opds, List.mem_cons, List.not_mem_nil, or_false, forall_eq_or_imp, forall_eq] at h; simp only [pop, h]
theorem mop_congr {id : Nat} {ρ ρ' : Opd → AV} {M : Mem} {q : MOp} (h : ∀ x ∈ q.opds, ρ x = ρ' x) : mop id ρ M q = mop id ρ' M q := by
  cases q with
  | bsl n es z ps =>
    have : (ps.map fun (x : Nat × Nat × Opd) => (x.1, x.2.1, ρ x.2.2)) = ps.map fun (x : Nat × Nat × Opd) => (x.1, x.2.1, ρ' x.2.2) := by
      apply List.map_congr_left
      intro x hx
      rw [h x.2.2 (by simp only [MOp.opds, List.mem_map]; exact ⟨x, hx, rfl⟩)]
    simp only [mop]
    exact congrArg (fun l => (match afill (rep z n) l with | some l => if z.length = es ∨ n = 0 then some (AV.slc id 0 n (some n) es, M.set id (AObj.cells l true)) else none | none => none : Option (AV × Mem))) this
  | sla n es lo hi x =>
    have h1 := opt_congr (x := lo) fun y hy => h y (by simp [MOp.opds, hy])
    have h2 := opt_congr (x := hi) fun y hy => h y (by simp [MOp.opds, hy])
    have h4 := h x (by simp [MOp.opds])
    simp only [mop, h1, h2, h4]
  | zal z => rfl
  | mkm => rfl
  | _ => simp only [MOp.opds, List.mem_cons, List.not_mem_nil, or_false, forall_eq_or_imp, forall_eq] at h; simp only [mop, h]
end Go.A
end
