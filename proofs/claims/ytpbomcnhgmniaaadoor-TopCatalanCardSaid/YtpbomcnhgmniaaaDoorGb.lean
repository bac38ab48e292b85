/- The operations on memory are sound. -/
import Derived.Test.YtpbomcnhgmniaaaDoorGa
section
namespace Go.A
/-- An operation that uses no number of its own. -/
def MOp.noid : MOp → Bool
  | .load _ | .loadn _ _ | .store _ _ _ | .sla _ _ _ _ _ | .look _ _ _ _ _ | .mup _ _ _ _ | .men _ _ _ _ | .mst _ _ _ | .lenm _ | .cpy _ _ _ | .b2s _ | .nxt _ => true
  | _ => false
def Ran (r : Result Next) (v : AV) (V : Value) (w' : World) : Prop := r = .ok (.value V) w' ∨ (r = .ok .skip w' ∧ V = undef ∧ v = .junk)
def MSound (P : Program) (κ : Kap) (M : Mem) (w : World) (ρ : Opd → AV) (ρc : Operand → Value) (id : Nat) (o : Oper) (m : MOp) : Prop :=
  ∀ v M', mop id ρ M m = some (v, M') → Rel κ M w → (m.noid = true ∨ id < M.next) → (m.noid = true ∨ κ id = none) →
    ∃ κ' V w', Ran ((execOp ρc o).run P w) v V w' ∧ VR κ' v V ∧ Step κ M w κ' M' w' ∧ (∀ B, B < M.next → (B ≠ id ∨ m.noid = true) → κ' B = κ B)
section
variable {P : Program} {κ : Kap} {M : Mem} {w : World} {ρ : Opd → AV} {ρc : Operand → Value} {id : Nat}
theorem put_other (κ : Kap) (id : Nat) (k : K) : ∀ B, B < M.next → (B ≠ id ∨ false = true) → (κ.put id k) B = κ B := fun _ _ h => Kap.put_ne _ _ (h.resolve_right (by simp))
theorem alloc_heap (w : World) (O : Obj) : (w.alloc O).heap[w.heap.size]? = some O := by
  show (w.heap.push O)[w.heap.size]? = _
  simp
/-- A new row of cells. -/
theorem new_cells (hr : Rel κ M w) (hid : id < M.next) (hk : κ id = none) {l : List AV} {C : Array Value} (e : TypeId) (hC : VRs κ l (C.toList.take l.length)) (hlen : l.length ≤ C.size) :
    Step κ M w (κ.put id ⟨w.heap.size, 0, C.size⟩) (M.set id (.cells l true)) (w.alloc (.cells C e)) := by
  refine hr.new hid hk _ _ _ (fun κ' hle => ?_)
  refine ⟨C, e, (0, 0), alloc_heap w _, rfl, by simpa using hlen, ?_, fun _ i _ => by omega⟩
  intro i v hv
  obtain ⟨V, hV, hvr⟩ := hC.get hv
  have hi : i < l.length := by
    rcases Nat.lt_or_ge i l.length with h | h
    · exact h
    · rw [List.getElem?_eq_none h] at hv; cases hv
  rw [List.getElem?_take, if_pos hi] at hV
  exact ⟨V, by simpa using hV, hvr.mono hle⟩
theorem new_cells' (hr : Rel κ M w) (hid : id < M.next) (hk : κ id = none) {l : List AV} {C : Array Value} (e : TypeId) (hC : VRs κ l C.toList) :
    Step κ M w (κ.put id ⟨w.heap.size, 0, C.size⟩) (M.set id (.cells l true)) (w.alloc (.cells C e)) := by
  have hl : l.length = C.size := by simpa using hC.length
  exact new_cells hr hid hk e (by rw [List.take_of_length_le (by simp [hl])]; exact hC) (by omega)
theorem ms_box (h : OR κ ρ ρc) {o : Oper} {t : TypeId} {x : Operand} {x' : Opd} (hx : lowOpd x = some x') (ho : o.op = .box t x) : MSound P κ M w ρ ρc id o (.box x') := by
  intro v M' hm hr hid hk
  replace hid := hid.resolve_left (by simp [MOp.noid])
  replace hk := hk.resolve_left (by simp [MOp.noid])
  have h1 := h _ _ hx
  simp only [mop] at hm
  split at hm
  · rename_i l hl
    cases hm
    have hc := h1.cells hl
    refine ⟨_, .pointer (some ⟨w.heap.size, 0, none⟩), w.alloc (.cells (ρc x).cells t), .inl ?_, ?_, new_cells' hr hid hk t hc, put_other _ _ _⟩
    · simp only [execOp, ho, Instr.box, newVar, newRow]
      simp
    · exact .ptr id 0 _ (Kap.put_same _ _ _)
  · cases hm
theorem ms_zal {o : Oper} {t : TypeId} {z : List AV} (hz : zeroCells P t = some z) (ho : o.op = .alloc t) : MSound P κ M w ρ ρc id o (.zal z) := by
  intro v M' hm hr hid hk
  replace hid := hid.resolve_left (by simp [MOp.noid])
  replace hk := hk.resolve_left (by simp [MOp.noid])
  obtain ⟨Z, hZ, hZr⟩ := zeroCells_sound (P := P) (w := w) (κ := κ) hz
  simp only [mop] at hm
  cases hm
  refine ⟨_, .pointer (some ⟨w.heap.size, 0, none⟩), w.alloc (.cells Z.cells t), .inl ?_, ?_, new_cells' hr hid hk t hZr, put_other _ _ _⟩
  · simp only [execOp, ho, Instr.alloc, newVar, newRow]
    simp [hZ]
  · exact .ptr id 0 _ (Kap.put_same _ _ _)
/-! Reading. -/
theorem ms_load (h : OR κ ρ ρc) {o : Oper} {t : TypeId} {d : TypeDesc} {x : Operand} {x' : Opd} (hx : lowOpd x = some x') (hd : P.underlying t = some d) (ha : aggD d = false) (ho : o.op = .load t x) :
    MSound P κ M w ρ ρc id o (.load x') := by
  intro v M' hm hr hid hk
  have h1 := h _ _ hx
  simp only [mop] at hm
  split at hm
  · rename_i b off hb
    rw [hb] at h1
    obtain ⟨k, hkb, e⟩ := vr_ptr h1
    simp only [Option.map_eq_some_iff] at hm
    obtain ⟨u, hu, hm⟩ := hm
    cases hm
    obtain ⟨V, hV, hvr⟩ := hr.rd hu hkb
    refine ⟨κ, V, w, .inl ?_, hvr, Step.refl hr, fun _ _ _ => rfl⟩
    simp only [execOp, ho, e, Instr.loadAt, Instr.sureAddr, loadVar]
    simp [run_agg hd, ha, hV]
  · cases hm
theorem run_loads {b o : Nat} : ∀ (L : List Value), (∀ i V, L[i]? = some V → w.cell? ⟨b, o + i, none⟩ = some V) → (loadCells ⟨b, o, none⟩ L.length).run P w = .ok L.toArray w := by
  intro L hL
  rw [run_loadCells_list w ⟨b, o, none⟩ L (fun j v hj => by rw [add_off]; exact hL j v hj)]
theorem cells_list {k : K} {cs : List AV} {wr : Bool} (hO : ObjR κ w k (.cells cs wr)) {o n : Nat} (hn : o + n ≤ cs.length) :
    ∃ L : List Value, L.length = n ∧ VRs κ ((cs.drop o).take n) L ∧ (∀ i V, L[i]? = some V → w.cell? ⟨k.blk, k.off + o + i, none⟩ = some V) := by
  obtain ⟨C, e, fz, h1, h2, h3, h4, h5⟩ := hO
  refine ⟨((C.toList.drop (k.off + o)).take n), by simp; omega, ?_, ?_⟩
  · refine VRs.of_get (by simp; omega) ?_
    intro i v V hv hV
    rw [List.getElem?_take] at hv hV
    split at hv
    · rename_i hi
      rw [if_pos hi] at hV
      rw [List.getElem?_drop] at hv hV
      obtain ⟨U, hU, hr⟩ := h4 _ _ hv
      have : U = V := by
        have e' : k.off + (o + i) = k.off + o + i := by omega
        rw [e'] at hU
        have : C[k.off + o + i]? = some V := by simpa using hV
        rw [hU] at this; cases this; rfl
      exact this ▸ hr
    · cases hv
  · intro i V hV
    rw [List.getElem?_take] at hV
    split at hV
    · rw [List.getElem?_drop] at hV
      simp [World.cell?, h1]
      simpa using hV
    · cases hV
theorem Rel.rdn {b o n : Nat} {l : List AV} (hr : Rel κ M w) (hl : M.rdn b o n = some l) {k : K} (hk : κ b = some k) :
    ∃ L : List Value, L.length = n ∧ VRs κ l L ∧ (loadCells ⟨k.blk, k.off + o, none⟩ n).run P w = .ok L.toArray w := by
  unfold Mem.rdn at hl
  split at hl
  · rename_i cs wr hB
    split at hl
    · rename_i hle
      cases hl
      obtain ⟨k', hk', hO⟩ := hr.obj _ _ hB
      rw [hk] at hk'; cases hk'
      obtain ⟨L, h1, h2, h3⟩ := cells_list hO hle
      exact ⟨L, h1, h2, by rw [← h1]; exact run_loads L h3⟩
    · cases hl
  · cases hl
theorem ms_loadn (h : OR κ ρ ρc) {o : Oper} {t : TypeId} {d : TypeDesc} {i : TypeInfo} {x : Operand} {x' : Opd} (hx : lowOpd x = some x') (hd : P.underlying t = some d) (ha : aggD d = true) (hi : P.info? t = some i) (ho : o.op = .load t x) :
    MSound P κ M w ρ ρc id o (.loadn i.size x') := by
  intro v M' hm hr hid hk
  have h1 := h _ _ hx
  simp only [mop] at hm
  split at hm
  · rename_i b off hb
    rw [hb] at h1
    obtain ⟨k, hkb, e⟩ := vr_ptr h1
    simp only [Option.map_eq_some_iff] at hm
    obtain ⟨u, hu, hm⟩ := hm
    cases hm
    obtain ⟨L, hL, hvr, hrun⟩ := hr.rdn (P := P) hu hkb
    refine ⟨κ, .agg L.toArray, w, .inl ?_, .agg _ _ (by simpa using hvr), Step.refl hr, fun _ _ _ => rfl⟩
    simp only [execOp, ho, e, Instr.loadAt, Instr.sureAddr, loadVar]
    simp [run_agg hd, ha, run_size hi, hrun]
  · cases hm
/-! Writing. -/
theorem set_list (cs : List AV) (o : Nat) (v : AV) (l : List AV) (h : o < cs.length) :
    ((cs.set o v).take (o + 1) ++ l ++ (cs.set o v).drop (o + 1 + l.length)) = cs.take o ++ (v :: l) ++ cs.drop (o + (v :: l).length) := by
  have e1 : (cs.set o v).take (o + 1) = cs.take o ++ [v] := by
    rw [List.take_succ_eq_append_getElem (by simpa using h), List.take_set, List.set_eq_of_length_le (by simp; omega)]
    simp
  have e2 : (cs.set o v).drop (o + 1 + l.length) = cs.drop (o + (l.length + 1)) := by
    rw [List.drop_set, if_pos (by omega)]
    congr 1; omega
  rw [e1, e2]; simp
theorem stores_step : ∀ (l : List AV) (L : List Value) (i : Nat) (o : Nat) (M : Mem) (w : World) (cs : List AV) (k : K) (b : Nat), VRs κ l L → AV.allOne l = true → Rel κ M w → M.get b = some (.cells cs true) → κ b = some k →
    o + i + l.length ≤ cs.length →
    ∃ w', (storeCells ⟨k.blk, k.off + o, none⟩ L i).run P w = .ok () w' ∧ Step κ M w κ (M.set b (.cells (cs.take (o + i) ++ l ++ cs.drop (o + i + l.length)) true)) w'
  | [], L, i, o, M, w, cs, k, b, hl, _, hr, hb, hk, hle => by
    cases hl
    refine ⟨w, by simp [storeCells], ?_⟩
    have e1 : cs.take (o + i) ++ [] ++ cs.drop (o + i + ([] : List AV).length) = cs := by simp
    rw [e1]
    have : M.set b (.cells cs true) = M := by
      unfold Mem.set
      congr 1
      funext x
      split
      · rename_i e; rw [e, hb]
      · rfl
    rw [this]
    exact Step.refl hr
  | v :: l, _, i, o, M, w, cs, k, b, .cons _ V _ L hv hs, ha, hr, hb, hk, hle => by
    simp only [AV.allOne, List.all_cons, Bool.and_eq_true] at ha
    simp at hle
    have hoi : o + i < cs.length := by omega
    obtain ⟨k', hk', hO⟩ := hr.obj _ _ hb
    rw [hk] at hk'; cases hk'
    have hv0 : cs[o + i]? = some cs[o + i] := by simp [hoi]
    obtain ⟨U, hU, _⟩ := cell_of hO hv0
    have hfz := frozen_of hO hoi
    have st := hr.wr1 hb hk hoi hv
    obtain ⟨w', hw', st'⟩ := stores_step l L (i + 1) o _ _ (cs.set (o + i) v) k b hs ha.2 st.rel (by simp) hk (by simp; omega)
    refine ⟨w', ?_, ?_⟩
    · have ea : (⟨k.blk, k.off + o, none⟩ : Addr).add i = ⟨k.blk, k.off + (o + i), none⟩ := by rw [add_off, Nat.add_assoc]
      simp only [storeCells, Sem.run_bind, ea, run_store P w _ V .plain (hv.one ha.1), hU, hfz, Bool.false_eq_true, if_false, Result.andThen_ok]
      exact hw'
    · have := st.trans st'
      have e1 : (M.set b (.cells (cs.set (o + i) v) true)).set b (.cells ((cs.set (o + i) v).take (o + (i + 1)) ++ l ++ (cs.set (o + i) v).drop (o + (i + 1) + l.length)) true)
          = M.set b (.cells (cs.take (o + i) ++ (v :: l) ++ cs.drop (o + i + (v :: l).length)) true) := by
        have := set_list cs (o + i) v l hoi
        rw [← Nat.add_assoc, this]
        unfold Mem.set
        congr 1
        funext x
        by_cases e : x = b <;> simp [e]
      rw [e1] at this
      exact this
theorem Rel.wrs {b o : Nat} {l : List AV} {M' : Mem} (hr : Rel κ M w) (hm : M.wrs b o l = some M') {L : List Value} (hl : VRs κ l L) (ha : AV.allOne l = true) {k : K} (hk : κ b = some k) :
    ∃ w', (storeCells ⟨k.blk, k.off + o, none⟩ L).run P w = .ok () w' ∧ Step κ M w κ M' w' := by
  unfold Mem.wrs at hm
  split at hm
  · rename_i cs hb
    split at hm
    · rename_i hle
      cases hm
      have := stores_step (P := P) l L 0 o M w cs k b hl ha hr hb hk (by simpa using hle)
      simpa using this
    · cases hm
  · cases hm
theorem ms_store (h : OR κ ρ ρc) {o : Oper} {t : TypeId} {i : TypeInfo} {a x : Operand} {a' x' : Opd} (ha : lowOpd a = some a') (hx : lowOpd x = some x') (hi : P.info? t = some i) (ho : o.op = .store t a x) :
    MSound P κ M w ρ ρc id o (.store i.size a' x') := by
  intro v M' hm hr hid hk
  have h1 := h _ _ ha
  have h2 := h _ _ hx
  simp only [mop] at hm
  split at hm
  · rename_i b off l hb hl
    rw [hb] at h1
    obtain ⟨k, hkb, e⟩ := vr_ptr h1
    split at hm
    · rename_i hc
      simp only [Option.map_eq_some_iff] at hm
      obtain ⟨u, hu, hm⟩ := hm
      cases hm
      have hcs := h2.cells hl
      obtain ⟨w', hw', st⟩ := hr.wrs (P := P) hu hcs hc.2 hkb
      refine ⟨κ, undef, w', .inr ⟨?_, rfl, rfl⟩, .junk _, st, fun _ _ _ => rfl⟩
      have hsz : (ρc x).cells.size = i.size := by
        have := hcs.length
        have h' := hc.1
        simp at this; omega
      simp only [execOp, ho, e, Instr.storeAt, Instr.sureAddr, storeVar]
      simp [run_size hi, hsz, hw']
    · cases hm
  · cases hm
end
end Go.A
end
section
namespace Go.A
section
variable {P : Program} {κ : Kap} {M : Mem} {w : World} {ρ : Opd → AV} {ρc : Operand → Value} {id : Nat}
theorem wrap_small {n : Int} (h0 : 0 ≤ n) (h1 : n < 2 ^ 40) : IntKind.i64.wrap n = n := by
  unfold IntKind.wrap
  simp [IntKind.bits, IntKind.signed]
  omega
theorem rep_get (z : List AV) : ∀ (n i : Nat), i < n * z.length → (rep z n)[i]? = z[i % z.length]?
  | 0, i, h => by simp at h
  | n + 1, i, h => by
    simp only [rep]
    have hz : 0 < z.length := by
      rcases Nat.eq_zero_or_pos z.length with e | e
      · rw [e] at h; simp at h
      · exact e
    by_cases hi : i < z.length
    · rw [List.getElem?_append_left hi, Nat.mod_eq_of_lt hi]
    · rw [List.getElem?_append_right (by omega), rep_get z n (i - z.length) (by rw [Nat.add_mul] at h; omega)]
      congr 1
      rw [← Nat.mod_eq_sub_mod (by omega)]
theorem rep_length (z : List AV) : ∀ n : Nat, (rep z n).length = n * z.length
  | 0 => by simp [rep]
  | n + 1 => by simp [rep, rep_length z n, Nat.add_mul]; omega
theorem rep_sound {z : List AV} {Z : Array Value} (hz : VRs κ z Z.toList) (n : Nat) :
    VRs κ (rep z n) ((Array.range (n * Z.size)).map (fun i => Z[i % Z.size]!)).toList := by
  have hl : z.length = Z.size := by simpa using hz.length
  refine VRs.of_get (by simp [rep_length, hl]) ?_
  intro i v V hv hV
  have hi : i < n * z.length := by
    rcases Nat.lt_or_ge i (n * z.length) with h | h
    · exact h
    · rw [List.getElem?_eq_none (by rw [rep_length]; exact h)] at hv; cases hv
  rw [rep_get z n i hi] at hv
  obtain ⟨U, hU, hr⟩ := hz.get hv
  have hzp : 0 < Z.size := by
    rcases Nat.eq_zero_or_pos Z.size with e | e
    · rw [hl, e] at hi; simp at hi
    · exact e
  have hlt : i % Z.size < Z.size := Nat.mod_lt _ hzp
  simp [← hl] at hV
  have hi2 : i < n * Z.size := by rw [← hl]; exact hi
  simp at hU
  rw [hl] at hU
  have : V = U := by
    have e2 : Z[i % Z.size]! = U := by
      rw [getElem!_pos Z (i % Z.size) hlt]
      have := Array.getElem?_eq_getElem hlt
      rw [hU] at this
      cases this; rfl
    rw [← e2]
    obtain ⟨a, ha, h2⟩ := hV
    have : a = i := by
      rw [List.getElem?_range hi] at ha; cases ha; rfl
    rw [← h2, this, hl]
  exact this ▸ hr
theorem range0 (f : Nat → Value) : (Array.range 0).map f = #[] := by apply Array.ext'; simp
theorem ms_bsl (h : OR κ ρ ρc) {o : Oper} {t e : TypeId} {i : TypeInfo} {n : Nat} {parts : Array (Nat × Operand)} {z : List AV} {ps : List (Nat × Nat × Opd)} (ht : P.underlying t = some (.slice e)) (hi : P.info? e = some i)
    (hz : zeroCells P e = some z) (hn : n * i.size ≤ 2 ^ 24) (hp : lowParts (fun j => some (j * i.size, i.size)) parts.toList = some ps) (ho : o.op = .buildSlice t n parts) :
    MSound P κ M w ρ ρc id o (.bsl n i.size z ps) := by
  intro v M' hm hr hid hk
  replace hid := hid.resolve_left (by simp [MOp.noid])
  replace hk := hk.resolve_left (by simp [MOp.noid])
  obtain ⟨Z, hZ, hZr⟩ := zeroCells_sound (P := P) (w := w) (κ := κ) hz
  have hzl : z.length = Z.cells.size := by simpa using hZr.length
  simp only [mop] at hm
  split at hm
  · rename_i l hl
    split at hm
    · rename_i hc
      cases hm
      have hparts := h.parts (fun j => some (j * i.size, i.size)) hp
      have e1 : (parts.map fun (x : Nat × Operand) => (x.1, ρc x.2)).toList = parts.toList.map fun (i, x) => (i, ρc x) := by simp
      have hgo : ∃ C : Array Value, (Instr.buildSlice t n (parts.map fun (x : Nat × Operand) => (x.1, ρc x.2))).run P w = .ok (.slice (some ⟨w.heap.size, 0, none⟩) n n) (w.alloc (.cells C e)) ∧ VRs κ l C.toList ∧ C.size = n * i.size := by
        by_cases hz0 : n * i.size = 0
        · have hrep : rep z n = [] := by
            rcases hc with hc | hc
            · apply List.eq_nil_of_length_eq_zero
              rw [rep_length, hc, hz0]
            · rw [hc]; rfl
          rw [hrep] at hl
          obtain ⟨C', hC', hCr⟩ := fill_sound (κ := κ) (fun j => some (j * i.size, i.size)) _ _ hparts #[] [] l .nil hl
          have hsz : C'.size = 0 := by
            have h1 := hCr.length
            have h2 : l.length = 0 := by
              have : ∀ (c : List AV) (as : List (Nat × Nat × AV)) (c' : List AV), afill c as = some c' → c'.length = c.length := by
                intro c as
                induction as generalizing c with
                | nil => intro c' h; simp [afill] at h; rw [h]
                | cons a as ih =>
                  intro c' h
                  simp only [afill] at h
                  split at h
                  · cases h
                  · split at h
                    · cases h
                    · rw [ih _ _ h]; simp; omega
              simpa using this _ _ _ hl
            simp at h1; omega
          refine ⟨C', ?_, hCr, by rw [hsz, hz0]⟩
          simp only [Instr.buildSlice, Sem.run_bind, run_underlying ht, Result.andThen_ok, run_size hi]
          have hn' : ¬ (n * i.size > 2 ^ 24) := by omega
          simp only [Sem.run_ite, hz0, if_true, e1, range0, hC']
          simp [newRow]
        · have hzz : z.length = i.size := by
            rcases hc with hc | hc
            · exact hc
            · rw [hc] at hz0; simp at hz0
          have hrs := rep_sound hZr n
          have hZs : Z.cells.size = i.size := by omega
          rw [hZs] at hrs
          obtain ⟨C', hC', hCr⟩ := fill_sound (κ := κ) (fun j => some (j * i.size, i.size)) _ _ hparts _ _ l hrs hl
          have hsz : C'.size = n * i.size := by
            have h1 := hCr.length
            have : ∀ (c : List AV) (as : List (Nat × Nat × AV)) (c' : List AV), afill c as = some c' → c'.length = c.length := by
              intro c as
              induction as generalizing c with
              | nil => intro c' h; simp [afill] at h; rw [h]
              | cons a as ih =>
                intro c' h
                simp only [afill] at h
                split at h
                · cases h
                · split at h
                  · cases h
                  · rw [ih _ _ h]; simp; omega
            have h2 := this _ _ _ hl
            rw [rep_length, hzz] at h2
            simp at h1; omega
          refine ⟨C', ?_, hCr, hsz⟩
          simp only [Instr.buildSlice, Sem.run_bind, run_underlying ht, Result.andThen_ok, run_size hi]
          have hn' : ¬ (n * i.size > 2 ^ 24) := by omega
          simp only [if_neg hn', if_neg hz0, Sem.run_bind, hZ, Sem.run_pure, Result.andThen_ok, e1, hZs, hC']
          simp [newRow]
      obtain ⟨C, hrun, hCr, hCs⟩ := hgo
      refine ⟨_, .slice (some ⟨w.heap.size, 0, none⟩) n n, _, .inl ?_, ?_, new_cells' hr hid hk e hCr, put_other _ _ _⟩
      · simp only [execOp, ho]
        simp [hrun]
      · exact .slc id 0 n (some n) i.size ⟨w.heap.size, 0, C.size⟩ n (Kap.put_same _ _ _) (Nat.le_refl _) (by simp [hCs]) (by simp) (by simp)
    · cases hm
  · cases hm
end
end Go.A
end
section
namespace Go.A
section
variable {P : Program} {κ : Kap} {M : Mem} {w : World} {ρ : Opd → AV} {ρc : Operand → Value} {id : Nat}
theorem ms_mks (h : OR κ ρ ρc) {o : Oper} {t e : TypeId} {i : TypeInfo} {z : List AV} {a b : Operand} {a' b' : Opd} (ht : P.underlying t = some (.slice e)) (hi : P.info? e = some i)
    (hz : zeroCells P e = some z) (ha : lowOpd a = some a') (hb : lowOpd b = some b') (ho : o.op = .makeSlice t a b) : MSound P κ M w ρ ρc id o (.mks i.size i.bytes z a' b') := by
  intro v M' hm hr hid hk
  replace hid := hid.resolve_left (by simp [MOp.noid])
  replace hk := hk.resolve_left (by simp [MOp.noid])
  obtain ⟨Z, hZ, hZr⟩ := zeroCells_sound (P := P) (w := w) (κ := κ) hz
  have hzl : z.length = Z.cells.size := by simpa using hZr.length
  have h1 := h _ _ ha
  have h2 := h _ _ hb
  simp only [mop] at hm
  split at hm
  · rename_i k n k' m hn hm'
    rw [hn] at h1; rw [hm'] at h2
    split at hm
    · rename_i hc
      obtain ⟨c1, c2, c3, c4, c5⟩ := hc
      cases hm
      have wn : IntKind.i64.wrap n = n := wrap_small c1 (by omega)
      have wm : IntKind.i64.wrap m = m := wrap_small (by omega) c3
      have hgo : ∃ C : Array Value, (Instr.makeSlice t (ρc a) (ρc b)).run P w = .ok (.slice (some ⟨w.heap.size, 0, none⟩) n.toNat m.toNat) (w.alloc (.cells C e)) ∧ VRs κ (rep z m.toNat) C.toList ∧ C.size = m.toNat * i.size := by
        have hb1 : ¬ (281474976710656 < (i.bytes : Int) * m) := by rw [Int.mul_comm]; omega
        have hm0 : ¬ (m < 0) := by omega
        have hn0 : ¬ (n < 0) := by omega
        have hnm : ¬ (n > m) := by omega
        by_cases hz0 : m.toNat * i.size = 0
        · have hrep : rep z m.toNat = [] := by
            rcases c5 with hc | hc
            · apply List.eq_nil_of_length_eq_zero
              rw [rep_length, hc, hz0]
            · rw [hc]; rfl
          refine ⟨#[], ?_, by rw [hrep]; exact .nil, by rw [hz0]; rfl⟩
          simp only [Instr.makeSlice, Sem.run_bind, run_underlying ht, Result.andThen_ok, vr_int h1, vr_int h2, asInt, asIntOf, Sem.run_pure, run_info hi, wn, wm]
          simp [hb1, hm0, hn0, hnm, run_size hi, hz0, newRow]
          rw [range0]
        · have hzz : z.length = i.size := by
            rcases c5 with hc | hc
            · exact hc
            · rw [hc] at hz0; simp at hz0
          have hZs : Z.cells.size = i.size := by omega
          have hrs := rep_sound hZr m.toNat
          rw [hZs] at hrs
          refine ⟨_, ?_, hrs, by simp⟩
          simp only [Instr.makeSlice, Sem.run_bind, run_underlying ht, Result.andThen_ok, vr_int h1, vr_int h2, asInt, asIntOf, Sem.run_pure, run_info hi, wn, wm]
          simp [hb1, hm0, hn0, hnm, run_size hi, hz0, hZ, newRow, hZs]
      obtain ⟨C, hrun, hCr, hCs⟩ := hgo
      refine ⟨_, .slice (some ⟨w.heap.size, 0, none⟩) n.toNat m.toNat, _, .inl ?_, ?_, new_cells' hr hid hk e hCr, put_other _ _ _⟩
      · simp only [execOp, ho]
        simp [hrun]
      · exact .slc id 0 n.toNat (some m.toNat) i.size ⟨w.heap.size, 0, C.size⟩ m.toNat (Kap.put_same _ _ _) (by omega) (by simp [hCs]) (by simp) (by simp)
    · cases hm
  · cases hm
end
end Go.A
end
section
namespace Go.A
section
variable {P : Program} {κ : Kap} {M : Mem} {w : World} {ρ : Opd → AV} {ρc : Operand → Value} {id : Nat}
/-- More of the model's block is looked at: its cells are unknown. -/
theorem Rel.extend (h : Rel κ M w) {b : Nat} {cs : List AV} {k : K} (hb : M.get b = some (.cells cs true)) (hk : κ b = some k) (n : Nat) (hn : k.off + cs.length + n ≤ k.size) :
    Step κ M w κ (M.set b (.cells (cs ++ List.replicate n .junk) true)) w := by
  obtain ⟨k', hk', C, e, fz, h1, h2, h3, h4, h5⟩ := h.obj _ _ hb
  rw [hk] at hk'; cases hk'
  refine h.turn hb rfl hk ⟨C, e, fz, h1, h2, by simp; omega, ?_, h5⟩ rfl rfl rfl rfl (fun _ _ => rfl)
  intro i v hv
  rw [List.getElem?_append] at hv
  split at hv
  · exact h4 i v hv
  · rename_i hi
    rw [List.getElem?_replicate] at hv
    split at hv
    · cases hv
      have : k.off + i < C.size := by omega
      exact ⟨C[k.off + i], by simp [this], .junk _⟩
    · cases hv
/-- A block gets a new name, its first cells and its last ones being forgotten. -/
theorem Rel.rename (h : Rel κ M w) {b id : Nat} {cs : List AV} {k : K} (hb : M.get b = some (.cells cs true)) (hk : κ b = some k) (hid : id < M.next) (hi : κ id = none) (o n : Nat) (hoc : o ≤ cs.length) :
    Step κ M w (κ.put id ⟨k.blk, k.off + o, k.size⟩) ((M.del b).set id (.cells ((cs.drop o).take n) true)) w := by
  have hne : b ≠ id := by rintro rfl; rw [hk] at hi; cases hi
  have hle : κ.le (κ.put id ⟨k.blk, k.off + o, k.size⟩) := Kap.le_put hi _
  obtain ⟨k', hk', C, e, fz, h1, h2, h3, h4, h5⟩ := h.obj _ _ hb
  rw [hk] at hk'; cases hk'
  have get : ∀ B ob, ((M.del b).set id (.cells ((cs.drop o).take n) true)).get B = some ob → (B = id ∧ ob = .cells ((cs.drop o).take n) true) ∨ (B ≠ id ∧ B ≠ b ∧ M.get B = some ob) := by
    intro B ob hB
    rw [Mem.set_get] at hB
    by_cases e : B = id
    · rw [if_pos e] at hB; cases hB; exact .inl ⟨e, rfl⟩
    · rw [if_neg e, Mem.del_get] at hB
      by_cases e' : B = b
      · rw [if_pos e'] at hB; cases hB
      · rw [if_neg e'] at hB; exact .inr ⟨e, e', hB⟩
  refine ⟨⟨?_, ?_, ?_, ?_⟩, ⟨hle, Nat.le_refl _, ?_⟩, Fr.refl _ _ _⟩
  · intro B ob hB
    rcases get B ob hB with ⟨rfl, rfl⟩ | ⟨e1, e2, hB'⟩
    · refine ⟨_, Kap.put_same _ _ _, C, e, fz, h1, h2, by simp; omega, ?_, h5⟩
      intro i v hv
      rw [List.getElem?_take] at hv
      split at hv
      · rw [List.getElem?_drop] at hv
        obtain ⟨V, hV, hr⟩ := h4 _ _ hv
        exact ⟨V, by rw [← hV]; congr 1; simp; omega, hr.mono hle⟩
      · cases hv
    · obtain ⟨kB, hkB, hO⟩ := h.obj _ _ hB'
      exact ⟨kB, hle _ _ hkB, hO.mono hle⟩
  · intro B B' o₁ o₂ k₁ k₂ g1 g2 g3 g4 g5 g6
    rcases get B o₁ g1 with ⟨rfl, rfl⟩ | ⟨e1, e2, hB⟩ <;> rcases get B' o₂ g3 with ⟨rfl, rfl⟩ | ⟨e1', e2', hB'⟩
    · rfl
    · rw [Kap.put_same] at g4; cases g4
      rw [Kap.put_ne _ _ e1'] at g5
      exact absurd (h.sep b B' _ o₂ k k₂ hb rfl hB' hk g5 g6) (fun e => e2' e.symm)
    · rw [Kap.put_same] at g5; cases g5
      rw [Kap.put_ne _ _ e1] at g4
      exact absurd (h.sep B b o₁ _ k₁ k hB g2 hb g4 hk g6) e2
    · rw [Kap.put_ne _ _ e1] at g4
      rw [Kap.put_ne _ _ e1'] at g5
      exact h.sep B B' o₁ o₂ k₁ k₂ hB g2 hB' g4 g5 g6
  · intro B hB
    rw [Kap.put_ne _ _ (by simp at hB; omega)]
    exact h.fresh B hB
  · intro B kB hB
    by_cases e' : B = id
    · subst e'; rw [Kap.put_same] at hB; cases hB; exact h.inb b k hk
    · rw [Kap.put_ne _ _ e'] at hB; exact h.inb B kB hB
  · intro B ob kB g1 g3 g4
    rcases get B ob g1 with ⟨rfl, rfl⟩ | ⟨e1, e2, hB⟩
    · rw [Kap.put_same] at g3; cases g3
      exact ⟨b, _, k, hb, fun _ => rfl, hk, rfl⟩
    · rw [Kap.put_ne _ _ e1] at g3
      exact ⟨B, ob, kB, hB, fun h => h, g3, rfl⟩
theorem bytes_VRs : ∀ (l : List UInt8), VRs κ (byteCells l) (l.map fun b => Value.int .u8 b.toNat)
  | [] => .nil
  | _b :: l => .cons _ _ _ _ (.int _ _) (bytes_VRs l)
theorem app_src (hr : Rel κ M w) {y : AV} {Y : Value} (hv : VR κ y Y) {es n : Nat} {l : List AV} (hs : asrc es M y = some (n, l)) :
    (Builtin.lenOf Y).run P w = .ok n w ∧ ∃ L : List Value, (Builtin.firstCells es n Y).run P w = .ok L.toArray w ∧ VRs κ l L := by
  unfold asrc at hs
  split at hs
  · cases hs
    rw [vr_nilSlc hv]
    exact ⟨rfl, [], rfl, .nil⟩
  · rename_i b o m c es'
    split at hs
    · rename_i hes
      subst hes
      rcases vr_slc hv with ⟨k, cap, hk, hn, hsz, hc, he, rfl⟩ | ⟨a, hm, hc, _, rfl⟩
      · split at hs
        · rename_i h0
          cases hs
          subst h0
          exact ⟨rfl, [], by simp [Builtin.firstCells, loadCells, loadCellsFrom], .nil⟩
        · simp only [Option.map_eq_some_iff] at hs
          obtain ⟨u, hu, hs⟩ := hs
          cases hs
          obtain ⟨L, h1, h2, h3⟩ := hr.rdn (P := P) hu hk
          exact ⟨rfl, L, h3, h2⟩
      · subst hm
        simp at hs
        obtain ⟨rfl, rfl⟩ := hs
        exact ⟨rfl, [], by simp [Builtin.firstCells, loadCells, loadCellsFrom], .nil⟩
    · cases hs
  · rename_i s
    split at hs
    · cases hs
      obtain ⟨S, rfl, hS⟩ := vr_str hv
      subst hS
      refine ⟨rfl, S.data.toList.map fun b => Value.int .u8 b.toNat, ?_, bytes_VRs _⟩
      simp only [Builtin.firstCells, bytes_len]
      have : (S.extract 0 S.size) = S := by simp
      rw [this]
      have e : (Array.map (fun b => Value.int IntKind.u8 ↑b.toNat) S.data) = (List.map (fun b => Value.int IntKind.u8 ↑b.toNat) S.data.toList).toArray := by
        apply Array.ext'; simp
      rw [e]; rfl
    · cases hs
  · cases hs
theorem growBy_le (need : Nat) (B : Nat) (hB : need + (need + 768) / 4 ≤ B) : ∀ (r c : Nat), c ≤ B → Builtin.growBy need r c ≤ B
  | 0, c, h => h
  | r + 1, c, h => by
    simp only [Builtin.growBy]
    split
    · exact h
    · exact growBy_le need B hB r _ (by omega)
theorem nextcap_le (need cap : Nat) (h : cap < need) : Builtin.nextslicecap need cap ≤ 3 * need := by
  unfold Builtin.nextslicecap
  split
  · omega
  · split
    · omega
    · exact growBy_le need _ (by omega) 4 cap (by omega)
theorem zc_size (Z : Array Value) (n : Nat) : (Builtin.zeroCells Z n).size = n * Z.size := by simp [Builtin.zeroCells]
/-- An append that makes a new array. -/
theorem grow_run {e sT xT : TypeId} {i : TypeInfo} {Z : Value} {base : Option Addr} {x : Value} {ts : Array TypeId} {rt : TypeId} {dx : TypeDesc} {sLen n sCap : Nat} {L0 L1 : List Value} (h0 : ts[0]? = some sT) (h1 : ts[1]? = some xT)
    (hx : P.underlying xT = some dx) (hdx : ∀ k, dx ≠ .int k) (hs : P.underlying sT = some (.slice e)) (hi : P.info? e = some i) (hz : i.zero = some Z) (hZ : Z.cells.size = i.size) (hlen : (Builtin.lenOf x).run P w = .ok n w)
    (hcap : sCap < sLen + n) (hneed : sLen + n < 2 ^ 40) (hbytes : (sLen + n) * i.bytes * 3 ≤ 2 ^ 47)
    (hold : (Builtin.firstCells i.size sLen (.slice base sLen sCap)).run P w.drew = .ok L0.toArray w.drew) (hnew : (Builtin.firstCells i.size n x).run P w.drew = .ok L1.toArray w.drew)
    (hl0 : L0.length = sLen * i.size) (hl1 : L1.length = n * i.size) :
    ∃ (cap : Nat) (C : Array Value), (Builtin.append_ ts rt #[.slice base sLen sCap, x]).run P w = .ok (.slice (some ⟨w.heap.size, 0, none⟩) (sLen + n) cap) (w.drew.alloc (.cells C e)) ∧
      sLen + n ≤ cap ∧ C.size = cap * i.size ∧ C.toList.take (L0 ++ L1).length = L0 ++ L1 := by
  have hq : ∀ t : Nat, sLen + n ≤ (Question.appendCap (sLen + n) sCap e).cut t := fun t => by simp only [Question.cut]; omega
  refine ⟨(Question.appendCap (sLen + n) sCap e).cut (w.tape w.drawn (.appendCap (sLen + n) sCap e)), L0.toArray ++ L1.toArray ++ Builtin.zeroCells Z.cells ((Question.appendCap (sLen + n) sCap e).cut (w.tape w.drawn (.appendCap (sLen + n) sCap e)) - (sLen + n)), ?_, hq _, ?_, ?_⟩
  · have hd : (match dx with | .int _ => true | _ => false) = false := by cases dx <;> first | rfl | exact absurd rfl (hdx _)
    have e0 : (#[Value.slice base sLen sCap, x] : Array Value)[0]? = some (.slice base sLen sCap) := rfl
    have e1 : (#[Value.slice base sLen sCap, x] : Array Value)[1]? = some x := rfl
    have hnc := nextcap_le (sLen + n) sCap hcap
    have hroom : ¬ (Builtin.nextslicecap (sLen + n) sCap * i.bytes > 2 ^ 48) := by
      have : Builtin.nextslicecap (sLen + n) sCap * i.bytes ≤ 3 * (sLen + n) * i.bytes := Nat.mul_le_mul_right _ hnc
      have e3 : 3 * (sLen + n) * i.bytes = (sLen + n) * i.bytes * 3 := by rw [Nat.mul_comm 3, Nat.mul_assoc, Nat.mul_comm 3, ← Nat.mul_assoc]
      omega
    have hbig : ¬ (((sLen + n : Nat) : Int) > IntKind.i64.max ∧ (false = true ∨ i.bytes = 0)) := by
      intro hh
      have : IntKind.i64.max = 9223372036854775807 := rfl
      omega
    simp only [Builtin.append_, h0, h1, e0, e1, Sem.run_bind, run_underlying hs, Result.andThen_ok, run_size hi, run_underlying hx, Sem.run_pure, Bool.false_eq_true, if_false, hlen]
    rw [Sem.run_ite, if_neg (by omega)]
    simp only [Sem.run_bind, run_info hi, Result.andThen_ok, Sem.run_pure, Sem.run_ite, if_neg hroom, run_choose, Question.forced, Bool.false_eq_true, if_false, run_askRoom, World.drew_eq, hold, hnew, run_zero hi hz]
    have hb1 : ¬ (9223372036854775807 < (sLen : Int) + n ∧ i.bytes = 0) := by omega
    have hb2 : ¬ (281474976710656 < Builtin.nextslicecap (sLen + n) sCap * i.bytes) := by omega
    simp [newRow, hb1]
    congr 2
    rw [← Array.append_assoc]
    congr 1
    apply Array.ext'; simp
  · simp only [Array.size_append, List.size_toArray, hl0, hl1, zc_size, hZ]
    have := hq (w.tape w.drawn (.appendCap (sLen + n) sCap e))
    generalize (Question.appendCap (sLen + n) sCap e).cut (w.tape w.drawn (.appendCap (sLen + n) sCap e)) = cap at this ⊢
    rw [← Nat.add_mul, ← Nat.add_mul]
    congr 1; omega
  · simp only [Array.toList_append]
    exact List.take_left' rfl
end
end Go.A
end
section
namespace Go.A
section
variable {P : Program} {κ : Kap} {M : Mem} {w : World} {ρ : Opd → AV} {ρc : Operand → Value} {id : Nat}
/-- An append within the capacity. -/
theorem inplace_run {e sT xT : TypeId} {i : TypeInfo} {base : Option Addr} {x : Value} {ts : Array TypeId} {rt : TypeId} {dx : TypeDesc} {sLen n sCap : Nat} {L1 : List Value} {w' : World} (h0 : ts[0]? = some sT) (h1 : ts[1]? = some xT)
    (hx : P.underlying xT = some dx) (hdx : ∀ k, dx ≠ .int k) (hs : P.underlying sT = some (.slice e)) (hi : P.info? e = some i) (hlen : (Builtin.lenOf x).run P w = .ok n w)
    (hcap : sLen + n ≤ sCap) (hnew : (Builtin.firstCells i.size n x).run P w = .ok L1.toArray w)
    (hst : match base with | some a => (storeCells (a.add (sLen * i.size)) L1).run P w = .ok () w' | none => w' = w) :
    (Builtin.append_ ts rt #[.slice base sLen sCap, x]).run P w = .ok (.slice base (sLen + n) sCap) w' := by
  have hd : (match dx with | .int _ => true | _ => false) = false := by cases dx <;> first | rfl | exact absurd rfl (hdx _)
  have e0 : (#[Value.slice base sLen sCap, x] : Array Value)[0]? = some (.slice base sLen sCap) := rfl
  have e1 : (#[Value.slice base sLen sCap, x] : Array Value)[1]? = some x := rfl
  simp only [Builtin.append_, h0, h1, e0, e1, Sem.run_bind, run_underlying hs, Result.andThen_ok, run_size hi, run_underlying hx, Sem.run_pure, Bool.false_eq_true, if_false, hlen]
  rw [Sem.run_ite, if_pos (by omega)]
  simp only [Sem.run_bind]
  cases base with
  | none => simp only at hst; subst hst; simp [hnew]
  | some a => simp only at hst; simp [hnew, hst]
theorem del_set_del (M : Mem) (b : Nat) (X Y : AObj) : ((M.set b X).set b Y).del b = M.del b := by
  unfold Mem.set Mem.del
  congr 1
  funext x
  by_cases e : x = b <;> simp [e]
theorem wrs_set {M M' : Mem} {b o : Nat} {l : List AV} {cs : List AV} (hb : M.get b = some (.cells cs true)) (h : M.wrs b o l = some M') :
    M' = M.set b (.cells (cs.take o ++ l ++ cs.drop (o + l.length)) true) := by
  unfold Mem.wrs at h
  rw [hb] at h
  simp only at h
  split at h <;> cases h
  rfl
theorem ms_app (h : OR κ ρ ρc) {o : Oper} {args : Array Operand} {ts : Array TypeId} {sT xT e : TypeId} {i : TypeInfo} {Z : Value} {dx : TypeDesc} {x y : Operand} {x' y' : Opd} (ha : args.toList = [x, y]) (h0 : ts[0]? = some sT) (h1 : ts[1]? = some xT)
    (hxl : lowOpd x = some x') (hyl : lowOpd y = some y') (hx : P.underlying xT = some dx) (hdx : ∀ k, dx ≠ .int k) (hs : P.underlying sT = some (.slice e)) (hi : P.info? e = some i) (hz : i.zero = some Z) (hZ : Z.cells.size = i.size)
    (ho : o.op = .call { callee := .builtin .append, args := args, argTypes := ts }) : MSound P κ M w ρ ρc id o (.app i.size i.bytes x' y') := by
  intro v M' hm hr hid hk
  replace hid := hid.resolve_left (by simp [MOp.noid])
  replace hk := hk.resolve_left (by simp [MOp.noid])
  have r1 := h _ _ hxl
  have r2 := h _ _ hyl
  have fin : ∀ V w', (Builtin.append_ ts o.type #[ρc x, ρc y]).run P w = .ok V w' → Ran ((execOp ρc o).run P w) v V w' := by
    intro V w' hV
    left
    rw [run_bi ho]
    simp only [builtin, args2 ha]
    simp [hV]
  simp only [mop] at hm
  split at hm
  case h_2 => cases hm
  rename_i n l hsrc
  split at hm
  case isFalse => cases hm
  rename_i hl
  obtain ⟨hlen, L1, hnew, hL1⟩ := app_src (P := P) hr r2 hsrc
  obtain ⟨_, L1', hnew', hL1'⟩ := app_src (P := P) hr.drew.rel r2 hsrc
  have hl1 : L1.length = n * i.size := by rw [← hL1.length]; exact hl.2
  have hl1' : L1'.length = n * i.size := by rw [← hL1'.length]; exact hl.2
  unfold aapp at hm
  split at hm
  · -- the nil slice
    rename_i hxe
    rw [hxe] at r1
    have exx := vr_nilSlc r1
    split at hm
    · rename_i hn0
      cases hm
      subst hn0
      have hnil : L1 = [] := List.eq_nil_of_length_eq_zero (by simpa using hl1)
      exact ⟨κ, .slice none 0 0, w, fin _ _ (by rw [exx]; exact inplace_run h0 h1 hx hdx hs hi hlen (Nat.le_refl _) hnew rfl), .nilSlc, Step.refl hr, fun _ _ _ => rfl⟩
    · split at hm
      · rename_i hn0 hb
        cases hm
        obtain ⟨cap, C, hrun, c1, c2, c3⟩ := grow_run (P := P) (w := w) (rt := o.type) (base := none) (sLen := 0) (sCap := 0) (L0 := []) h0 h1 hx hdx hs hi hz hZ hlen (by omega) (by omega) (by simpa using hb.2) (by simp [Builtin.firstCells]) hnew' (by simp) hl1'
        have st := new_cells (κ := κ) hr.drew.rel hid hk (l := l) (C := C) e (by rw [hL1'.length]; simp at c3; rw [c3]; exact hL1') (by
          have := congrArg List.length c3
          simp at this
          rw [hL1'.length]; omega)
        refine ⟨_, .slice (some ⟨w.heap.size, 0, none⟩) n cap, _, fin _ _ (by rw [exx]; simpa using hrun), ?_, hr.drew.trans st, put_other _ _ _⟩
        exact .slc id 0 n none i.size ⟨w.heap.size, 0, C.size⟩ cap (Kap.put_same _ _ _) (by omega) (by simp [c2]) (by simp) (by simp [c2])
      · cases hm
  · -- a slice
    rename_i b off k c es' hxe
    rw [hxe] at r1
    split at hm
    case isFalse => cases hm
    rename_i hes
    subst hes
    split at hm
    · rename_i hn0
      cases hm
      subst hn0
      have hnil : L1 = [] := List.eq_nil_of_length_eq_zero (by simpa using hl1)
      rcases vr_slc r1 with ⟨kk, cap, hkb, hn, hsz, hc, he, exx⟩ | ⟨a, hk0, hc, hce, exx⟩
      · exact ⟨κ, _, w, fin _ _ (by rw [exx]; exact inplace_run h0 h1 hx hdx hs hi hlen (by omega) hnew (by rw [hnil]; simp [storeCells])), by rw [exx] at r1; exact r1, Step.refl hr, fun _ _ _ => rfl⟩
      · subst hk0
        exact ⟨κ, _, w, fin _ _ (by rw [exx]; exact inplace_run h0 h1 hx hdx hs hi hlen (by omega) hnew (by rw [hnil]; simp [storeCells])), by rw [exx] at r1; exact r1, Step.refl hr, fun _ _ _ => rfl⟩
    · rename_i hn0
      split at hm
      case h_2 => cases hm
      rename_i cs wr hB
      split at hm
      case isFalse => cases hm
      rename_i hcond
      obtain ⟨q1, q2, q3⟩ := hcond
      have hl0 : ((cs.drop off).take (k * i.size)).length = k * i.size := by simp; omega
      -- what an append makes where it makes a new array
      have grow : ∀ (base : Option Addr) (sCap : Nat) (L0 : List Value), ρc x = .slice base k sCap → sCap < k + n → (Builtin.firstCells i.size k (.slice base k sCap)).run P w.drew = .ok L0.toArray w.drew →
          VRs κ ((cs.drop off).take (k * i.size)) L0 → ∀ M₁ : Mem, Step κ M w κ M₁ w.drew → id < M₁.next →
          ∃ κ' V w', Ran ((execOp ρc o).run P w) (.slc id 0 (k + n) none i.size) V w' ∧ VR κ' (.slc id 0 (k + n) none i.size) V ∧ Step κ M w κ' (M₁.set id (.cells ((cs.drop off).take (k * i.size) ++ l) true)) w' ∧ (∀ B, B < M.next → (B ≠ id ∨ false = true) → κ' B = κ B) ∧ v = v := by
        intro base sCap L0 exx hcap hold hL0 M₁ st1 hid1
        have hlL0 : L0.length = k * i.size := by rw [← hL0.length]; exact hl0
        obtain ⟨cap, C, hrun, c1, c2, c3⟩ := grow_run (P := P) (w := w) (rt := o.type) h0 h1 hx hdx hs hi hz hZ hlen hcap q2 q3 hold hnew' hlL0 hl1'
        have hap := hL0.append hL1'
        have st := new_cells (κ := κ) st1.rel hid1 hk (l := (cs.drop off).take (k * i.size) ++ l) (C := C) e (by rw [hap.length, c3]; exact hap) (by
          have := congrArg List.length c3
          rw [List.length_take] at this
          rw [hap.length]; simp at this ⊢; omega)
        refine ⟨_, .slice (some ⟨w.heap.size, 0, none⟩) (k + n) cap, _, ?_, ?_, st1.trans st, put_other _ _ _, rfl⟩
        · left
          rw [run_bi ho]
          simp only [builtin, args2 ha, exx]
          simp [hrun]
        · exact .slc id 0 (k + n) none i.size ⟨w.heap.size, 0, C.size⟩ cap (Kap.put_same _ _ _) (by omega) (by simp [c2]) (by simp) (by simp [c2])
      -- the old cells
      have old : ∀ (kk : K) (sCap : Nat), κ b = some kk → ∃ L0 : List Value, (Builtin.firstCells i.size k (.slice (some ⟨kk.blk, kk.off + off, none⟩) k sCap)).run P w.drew = .ok L0.toArray w.drew ∧ VRs κ ((cs.drop off).take (k * i.size)) L0 := by
        intro kk sCap hkb
        have hrdn : M.rdn b off (k * i.size) = some ((cs.drop off).take (k * i.size)) := by
          unfold Mem.rdn; rw [hB]; simp only; rw [if_pos q1]
        obtain ⟨L, g1, g2, g3⟩ := hr.drew.rel.rdn (P := P) hrdn hkb
        exact ⟨L, by simpa [Builtin.firstCells] using g3, g2⟩
      rcases vr_slc r1 with ⟨kk, cap, hkb, hn, hsz, hc, he, exx⟩ | ⟨a, hk0, hc, hce, exx⟩
      · obtain ⟨L0, hold, hL0⟩ := old kk cap hkb
        -- in place
        have inpl : ∀ {M₂ : Mem}, k + n ≤ cap → M.wrs b (off + k * i.size) l = some M₂ → ∃ w', (Builtin.append_ ts o.type #[ρc x, ρc y]).run P w = .ok (.slice (some ⟨kk.blk, kk.off + off, none⟩) (k + n) cap) w' ∧ Step κ M w κ M₂ w' := by
          intro M₂ hcap hw
          obtain ⟨w', hw', st⟩ := hr.wrs (P := P) hw hL1 hl.1 hkb
          refine ⟨w', ?_, st⟩
          rw [exx]
          refine inplace_run h0 h1 hx hdx hs hi hlen hcap hnew ?_
          simp only [add_off]
          rw [Nat.add_assoc]; exact hw'
        cases c with
        | some c0 =>
          have hcc := hc c0 rfl
          simp only at hm
          split at hm
          · rename_i hle
            simp only [Option.map_eq_some_iff] at hm
            obtain ⟨M₂, hw, hm⟩ := hm
            cases hm
            obtain ⟨w', hrun, st⟩ := inpl (by omega) hw
            exact ⟨κ, _, w', fin _ _ hrun, .slc _ _ _ _ _ _ _ hkb (by omega) hsz hc he, st, fun _ _ _ => rfl⟩
          · cases hm
            obtain ⟨κ', V, w', g1, g2, g3, g4, _⟩ := grow _ _ L0 exx (by omega) hold hL0 M hr.drew hid
            exact ⟨κ', V, w', g1, g2, g3, g4⟩
        | none =>
          have hee := he rfl
          simp only at hm
          obtain ⟨kk', hkb', C, ee, fz, z1, z2, z3, z4, z5⟩ := hr.obj _ _ hB
          rw [hkb] at hkb'; cases hkb'
          split at hm
          · rename_i hle
            simp only [Option.map_eq_some_iff] at hm
            obtain ⟨M₂, hw, hm⟩ := hm
            cases hm
            have hcap : k + n ≤ cap := by
              have : (k + n) * i.size ≤ cap * i.size := by omega
              exact Nat.le_of_mul_le_mul_right this (by omega)
            obtain ⟨w', hrun, st⟩ := inpl hcap hw
            exact ⟨κ, _, w', fin _ _ hrun, .slc _ _ _ _ _ _ _ hkb (by omega) hsz hc he, st, fun _ _ _ => rfl⟩
          · split at hm
            case isFalse => cases hm
            rename_i hwr
            subst hwr
            cases hm
            by_cases hcap : k + n ≤ cap
            · -- it stays where it is: the block gets a new name
              have hroom : off + (k + n) * i.size ≤ kk.size - kk.off := by
                have : (k + n) * i.size ≤ cap * i.size := Nat.mul_le_mul_right _ hcap
                omega
              have hkn : (k + n) * i.size = k * i.size + n * i.size := Nat.add_mul _ _ _
              -- look at more of it
              have st1 := hr.extend hB hkb (off + (k + n) * i.size - cs.length) (by omega)
              obtain ⟨M₂, hw⟩ : ∃ M₂, (M.set b (.cells (cs ++ List.replicate (off + (k + n) * i.size - cs.length) AV.junk) true)).wrs b (off + k * i.size) l = some M₂ := by
                unfold Mem.wrs
                simp only [Mem.set_same]
                rw [if_pos (by simp; omega)]
                exact ⟨_, rfl⟩
              have hM₂ := wrs_set (Mem.set_same _ _ _) hw
              obtain ⟨w', hw', st2⟩ := st1.rel.wrs (P := P) hw hL1 hl.1 hkb
              have st3 := st2.rel.rename (id := id) (b := b) (cs := (cs ++ List.replicate (off + (k + n) * i.size - cs.length) AV.junk).take (off + k * i.size) ++ l ++ (cs ++ List.replicate (off + (k + n) * i.size - cs.length) AV.junk).drop (off + k * i.size + l.length))
                (by rw [hM₂]; simp) hkb (by rw [hM₂]; exact hid) hk off ((k + n) * i.size) (by simp; omega)
              have hbig : ((((cs ++ List.replicate (off + (k + n) * i.size - cs.length) AV.junk).take (off + k * i.size) ++ l ++ (cs ++ List.replicate (off + (k + n) * i.size - cs.length) AV.junk).drop (off + k * i.size + l.length)).drop off).take ((k + n) * i.size)) = (cs.drop off).take (k * i.size) ++ l := by
                rw [List.take_append_of_le_length q1, List.append_assoc, List.drop_append_of_le_length (by simp; omega), hkn, List.take_append, List.drop_take]
                have e1 : off + k * i.size - off = k * i.size := by omega
                rw [e1]
                have e2 : ((cs.drop off).take (k * i.size)).length = k * i.size := hl0
                rw [List.take_of_length_le (by rw [e2]; omega), e2]
                have e3 : k * i.size + n * i.size - k * i.size = n * i.size := by omega
                rw [e3, ← hl.2, List.take_left]
              have hdel : M₂.del b = M.del b := by rw [hM₂]; exact del_set_del _ _ _ _
              rw [hbig, hdel] at st3
              refine ⟨_, .slice (some ⟨kk.blk, kk.off + off, none⟩) (k + n) cap, w', fin _ _ ?_, ?_, (st1.trans st2).trans st3, put_other _ _ _⟩
              · rw [exx]
                refine inplace_run h0 h1 hx hdx hs hi hlen hcap hnew ?_
                simp only [add_off]
                rw [Nat.add_assoc]; exact hw'
              · exact .slc id 0 (k + n) none i.size ⟨kk.blk, kk.off + off, kk.size⟩ cap (Kap.put_same _ _ _) hcap (by simpa using hsz) (by simp) (by intro _; simpa using hee)
            · obtain ⟨κ', V, w', g1, g2, g3, g4, _⟩ := grow _ _ L0 exx (by omega) hold hL0 (M.del b) (hr.drew.trans (hr.drew.rel.forget b)) hid
              exact ⟨κ', V, w', g1, g2, g3, g4⟩
      · subst hk0
        have hold : (Builtin.firstCells i.size 0 (.slice (some a) 0 0)).run P w.drew = .ok ([] : List Value).toArray w.drew := by
          simp [Builtin.firstCells, loadCells, loadCellsFrom]
        have hL0 : VRs κ ((cs.drop off).take (0 * i.size)) [] := by simp; exact .nil
        cases c with
        | some c0 =>
          have hcc := hc c0 rfl
          simp only at hm
          rw [if_neg (by omega)] at hm
          cases hm
          obtain ⟨κ', V, w', g1, g2, g3, g4, _⟩ := grow _ _ [] exx (by omega) hold hL0 M hr.drew hid
          exact ⟨κ', V, w', g1, g2, g3, g4⟩
        | none =>
          obtain ⟨kk, hkb, hke⟩ := hce rfl
          obtain ⟨kk', hkb', C, ee, fz, z1, z2, z3, z4, z5⟩ := hr.obj _ _ hB
          rw [hkb] at hkb'; cases hkb'
          simp only at hm
          have hno : ¬ (off + (0 + n) * i.size ≤ cs.length ∧ i.size ≠ 0) := by
            rintro ⟨u1, u2⟩
            have : n * i.size = 0 := by rw [Nat.zero_add] at u1; omega
            rcases Nat.mul_eq_zero.1 this with e | e <;> omega
          rw [if_neg hno] at hm
          split at hm
          case isFalse => cases hm
          cases hm
          obtain ⟨κ', V, w', g1, g2, g3, g4, _⟩ := grow _ _ [] exx (by omega) hold hL0 (M.del b) (hr.drew.trans (hr.drew.rel.forget b)) hid
          exact ⟨κ', V, w', g1, g2, g3, g4⟩
  · cases hm
end
end Go.A
end
section
namespace Go.A
section
variable {P : Program} {κ : Kap} {M : Mem} {w : World} {ρ : Opd → AV} {ρc : Operand → Value} {id : Nat}
theorem ms_mkm {o : Oper} {t : TypeId} (ho : o.op = .makeMap t none) : MSound P κ M w ρ ρc id o .mkm := by
  intro v M' hm hr hid hk
  replace hid := hid.resolve_left (by simp [MOp.noid])
  replace hk := hk.resolve_left (by simp [MOp.noid])
  simp only [mop] at hm
  cases hm
  have st := hr.new hid hk (.mp [] 0) (.map #[] 0) 0 (fun κ' _ => ⟨#[], alloc_heap w _, .nil⟩)
  refine ⟨_, .map (some w.heap.size), _, .inl ?_, ?_, st, put_other _ _ _⟩
  · simp only [execOp, ho, Option.map_none, Instr.makeMap]
    simp
  · exact .map id _ (Kap.put_same _ _ _)
theorem ms_sla (h : OR κ ρ ρc) {o : Oper} {t e : TypeId} {i : TypeInfo} {n : Nat} {x : Operand} {lo hi : Option Operand} {x' : Opd} {lo' hi' : Option Opd} (hx : lowOpd x = some x') (hlo : lowOpt lo = some lo') (hhi : lowOpt hi = some hi')
    (ht : P.underlying t = some (.array n e)) (hI : P.info? e = some i) (ho : o.op = .slice t x lo hi none) : MSound P κ M w ρ ρc id o (.sla n i.size lo' hi' x') := by
  intro v M' hm hr hid hk
  have h1 := h _ _ hx
  have r1 := h.opt hlo
  have r2 := h.opt hhi
  simp only [mop] at hm
  split at hm
  · rename_i b off hb
    rw [hb] at h1
    obtain ⟨k, hkb, e1⟩ := vr_ptr h1
    split at hm
    · rename_i cs wr l hh m hB hbd
      split at hm
      · rename_i hle
        cases hm
        obtain ⟨k', hk', C, ee, fz, z1, z2, z3, z4, z5⟩ := hr.obj _ _ hB
        rw [hkb] at hk'; cases hk'
        obtain ⟨m', hrun, g1, g2, g3, g4, g5⟩ := abounds_sound (P := P) (w := w) (isS := false) r1 r2 (mx := none) (Mx := none) trivial (Nat.le_refl n) (Nat.le_refl n) hbd
        have hmn : m = none := by
          unfold abounds at hbd
          simp only at hbd
          split at hbd
          · cases hbd
          · split at hbd
            · cases hbd
            · cases hbd; rfl
        have hm' := (g5 hmn).1
        subst hm'
        have fin : ∀ V, (Instr.sliceAt t (ρc x) (lo.map ρc) (hi.map ρc) none).run P w = .ok V w → Ran ((execOp ρc o).run P w) (.slc b (off + l * i.size) (hh - l) (some (m' - l)) i.size) V w := by
          intro V hV
          left
          simp only [execOp, ho, Option.map_none]
          simp [hV]
        by_cases hml : m' = l
        · refine ⟨κ, .slice (some ⟨k.blk, k.off + off, none⟩) 0 0, w, fin _ ?_, ?_, Step.refl hr, fun _ _ _ => rfl⟩
          · simp only [Instr.sliceAt, Sem.run_bind, run_underlying ht, Result.andThen_ok, e1, Instr.sureAddr, Sem.run_pure, hrun, run_size hI]
            simp [hml]; omega
          · have : hh - l = 0 := by omega
            rw [this]
            exact .slcE _ _ _ _ _ (fun x hx => by cases hx; omega) (fun hx => by cases hx)
        · refine ⟨κ, .slice (some ⟨k.blk, k.off + (off + l * i.size), none⟩) (hh - l) (m' - l), w, fin _ ?_, ?_, Step.refl hr, fun _ _ _ => rfl⟩
          · simp only [Instr.sliceAt, Sem.run_bind, run_underlying ht, Result.andThen_ok, e1, Instr.sureAddr, Sem.run_pure, hrun, run_size hI]
            simp [hml, add_off, Nat.add_assoc]
          · refine .slc _ _ _ _ _ _ _ hkb (by omega) ?_ (fun x hx => by cases hx; rfl) (fun hx => by cases hx)
            have : l * i.size + (m' - l) * i.size = m' * i.size := by rw [← Nat.add_mul]; congr 1; omega
            omega
      · cases hm
    · cases hm
  · cases hm
theorem ms_lenm (h : OR κ ρ ρc) {o : Oper} {args : Array Operand} {ts : Array TypeId} {t kt et : TypeId} {x : Operand} {x' : Opd} (ha : args.toList = [x]) (ht : ts[0]? = some t) (hx : lowOpd x = some x') (hd : P.underlying t = some (.map kt et))
    (ho : o.op = .call { callee := .builtin .len, args := args, argTypes := ts }) : MSound P κ M w ρ ρc id o (.lenm x') := by
  intro v M' hm hr hid hk
  have h1 := h _ _ hx
  simp only [mop] at hm
  split at hm
  · rename_i es hes
    cases hm
    refine ⟨κ, .int .i64 es.length, w, .inl (fin_len ho ?_), .int _ _, Step.refl hr, fun _ _ _ => rfl⟩
    unfold entsOf at hes
    split at hes
    · rename_i hx'
      rw [hx'] at h1
      cases hes
      have e1 : ρc x = .map none := by generalize ρc x = V at h1; cases h1; rfl
      simp [Builtin.len_, ht, args1 ha, run_underlying hd, e1, goInt]
    · rename_i r hx'
      rw [hx'] at h1
      split at hes
      · rename_i es' clk hr'
        have hee : es' = es := by cases hes; rfl
        subst hee
        obtain ⟨k, hkr, Es, hEs, hl⟩ := hr.obj _ _ hr'
        have e1 : ρc x = .map (some k.blk) := by
          generalize ρc x = V at h1
          cases h1 with | map _ k' hk' => rw [hkr] at hk'; cases hk'; rfl
        have hlen : es'.length = Es.size := by
          have : ∀ {a : List Ent} {b : List MapEntry}, L2 (EntR κ) a b → a.length = b.length := by
            intro a b hab
            induction hab with
            | nil => rfl
            | cons _ _ ih => simp [ih]
          simpa using this hl
        simp [Builtin.len_, ht, args1 ha, run_underlying hd, e1, getObj, Sem.run, hEs, goInt, hlen]
      · cases hes
    · cases hes
  · cases hm
theorem run_getObj {r : Nat} {o : Obj} (h : w.heap[r]? = some o) (hc : ∀ a b c, o ≠ .cells a b c) : (getObj r).run P w = .ok o w := by
  cases o <;> first | exact absurd rfl (hc _ _ _) | simp [getObj, Sem.run, h]
theorem run_setObj {r : Nat} {o o' : Obj} (h : w.heap[r]? = some o) (hc : ∀ a b c, o ≠ .cells a b c) : (setObj r o').run P w = .ok () { w with heap := w.heap.setIfInBounds r o' } := by
  cases o <;> first | exact absurd rfl (hc _ _ _) | simp [setObj, Sem.run, h]
/-- An object that is no row of cells is turned. -/
theorem Rel.setObj (h : Rel κ M w) {B : Nat} {ob ob' : AObj} {k : K} (hB : M.get B = some ob) (hw : ob.wr = true) (hk : κ B = some k) (O : Obj)
    (hO : ObjR κ { w with heap := w.heap.setIfInBounds k.blk O } k ob') : Step κ M w κ (M.set B ob') { w with heap := w.heap.setIfInBounds k.blk O } :=
  h.turn hB hw hk hO rfl rfl rfl (by simp) (fun c hc => by simp [Ne.symm hc])
theorem set_heap {b : Nat} (h : b < w.heap.size) (O : Obj) : (w.heap.setIfInBounds b O)[b]? = some O := by
  rw [Array.getElem?_setIfInBounds]; simp [h]
theorem ms_rng (h : OR κ ρ ρc) {o : Oper} {t : TypeId} {x : Operand} {x' : Opd} (hx : lowOpd x = some x') (hd : P.underlying t = some .string) (ho : o.op = .range t x) : MSound P κ M w ρ ρc id o (.rng x') := by
  intro v M' hm hr hid hk
  replace hid := hid.resolve_left (by simp [MOp.noid])
  replace hk := hk.resolve_left (by simp [MOp.noid])
  have h1 := h _ _ hx
  simp only [mop] at hm
  split at hm
  · rename_i s hs
    rw [hs] at h1
    obtain ⟨S, e1, hS⟩ := vr_str h1
    cases hm
    have st := hr.new hid hk (.siter s 0) (.stringIter S 0) 0 (fun κ' _ => ⟨S, alloc_heap w _, hS, rfl⟩)
    refine ⟨_, .pointer (some ⟨w.heap.size, 0, none⟩), _, .inl ?_, ?_, st, put_other _ _ _⟩
    · simp only [execOp, ho, Instr.range]
      simp [run_underlying hd, e1]
    · exact .ptr id 0 _ (Kap.put_same _ _ _)
  · cases hm
theorem ms_nxt (h : OR κ ρ ρc) {o : Oper} {x : Operand} {x' : Opd} (hx : lowOpd x = some x') (ho : o.op = .next x true) : MSound P κ M w ρ ρc id o (.nxt x') := by
  intro v M' hm hr hid hk
  have h1 := h _ _ hx
  simp only [mop] at hm
  split at hm
  · rename_i r hs
    rw [hs] at h1
    obtain ⟨k, hkr, e1⟩ := vr_ptr h1
    split at hm
    · rename_i s pos hB
      obtain ⟨k', hk', S, hS, hSs, hk0⟩ := hr.obj _ _ hB
      rw [hkr] at hk'; cases hk'
      have hsz : s.length = S.size := by subst hSs; rfl
      have hptr : (Value.pointer (some ⟨k.blk, k.off + 0, none⟩)) = .pointer (some ⟨k.blk, 0, none⟩) := by rw [hk0]
      have hgo := run_getObj (P := P) hS (by simp)
      split at hm
      · rename_i hlt
        cases hm
        have hmk : (⟨s.toArray⟩ : ByteArray) = S := by subst hSs; simp
        rw [hmk]
        have hset := run_setObj (P := P) (o' := .stringIter S (pos + (Utf8.decode S pos).2)) hS (by simp)
        have hb : k.blk < w.heap.size := hr.inb _ _ hkr
        refine ⟨κ, .tuple #[.bool true, goInt pos, .int .i32 (Utf8.decode S pos).1], _, .inl ?_, ?_, hr.setObj hB rfl hkr (.stringIter S (pos + (Utf8.decode S pos).2)) ⟨S, set_heap hb _, hSs, hk0⟩, fun _ _ _ => rfl⟩
        · simp only [execOp, ho, e1, hptr, Instr.next]
          have : pos < S.size := by omega
          simp [hgo, this, hset]
        · exact .tup _ _ (.cons _ _ _ _ (.bool _) (.cons _ _ _ _ (.int _ _) (.cons _ _ _ _ (.int _ _) .nil)))
      · rename_i hlt
        cases hm
        refine ⟨κ, .tuple #[.bool false], w, .inl ?_, ?_, Step.refl hr, fun _ _ _ => rfl⟩
        · simp only [execOp, ho, e1, hptr, Instr.next]
          have : ¬ pos < S.size := by omega
          simp [hgo, this]
        · exact .tup _ _ (.cons _ _ _ _ (.bool _) .nil)
    · cases hm
  · cases hm
end
end Go.A
end
section
namespace Go.A
section
variable {P : Program} {κ : Kap} {M : Mem} {w : World} {ρ : Opd → AV} {ρc : Operand → Value} {id : Nat}
theorem allOne_bytes : ∀ s : List UInt8, AV.allOne (byteCells s) = true
  | [] => rfl
  | b :: s => by
    have := allOne_bytes s
    simp only [AV.allOne, byteCells, List.map_cons, List.all_cons, AV.one, Bool.true_and]
    exact this
theorem ms_cpy (h : OR κ ρ ρc) {o : Oper} {args : Array Operand} {ts : Array TypeId} {t e : TypeId} {i : TypeInfo} {x y : Operand} {x' y' : Opd} (ha : args.toList = [x, y]) (h0 : ts[0]? = some t) (hxl : lowOpd x = some x') (hyl : lowOpd y = some y')
    (ht : P.underlying t = some (.slice e)) (hi : P.info? e = some i) (ho : o.op = .call { callee := .builtin .copy, args := args, argTypes := ts }) : MSound P κ M w ρ ρc id o (.cpy i.size x' y') := by
  intro v M' hm hr hid hk
  have r1 := h _ _ hxl
  have r2 := h _ _ hyl
  have e0 : ∀ a b : Value, (#[a, b] : Array Value)[0]? = some a := fun _ _ => rfl
  have e1 : ∀ a b : Value, (#[a, b] : Array Value)[1]? = some b := fun _ _ => rfl
  have fin : ∀ (base : Option Addr) (dLen cap n m : Nat) (L : List Value) (w' : World), ρc x = .slice base dLen cap → (Builtin.lenOf (ρc y)).run P w = .ok n w → m = min n dLen → (Builtin.firstCells i.size m (ρc y)).run P w = .ok L.toArray w →
      (match base with | some a => (storeCells a L).run P w = .ok () w' | none => w' = w) → Ran ((execOp ρc o).run P w) (agoInt m) (goInt m) w' := by
    intro base dLen cap n m L w' hx hlen hm hfc hst
    left
    rw [run_bi ho]
    simp only [builtin, args2 ha, hx]
    have hm' : Nat.min n dLen = m := hm.symm
    have : (Builtin.copy_ ts o.type #[.slice base dLen cap, ρc y]).run P w = .ok (goInt m) w' := by
      simp only [Builtin.copy_, h0, e0, e1, Sem.run_bind, run_underlying ht, Result.andThen_ok, hlen, run_size hi, hm', hfc]
      cases base with
      | none => subst hst; rfl
      | some a => simp only at hst; simp [hst]
    simp [this]
  have srclen : ∀ {yv : AV}, VR κ yv (ρc y) → (match yv with | .nilSlc => (Builtin.lenOf (ρc y)).run P w = .ok 0 w | .slc _ _ n _ _ => (Builtin.lenOf (ρc y)).run P w = .ok n w | .str s => (Builtin.lenOf (ρc y)).run P w = .ok s.length w | _ => True) := by
    intro yv hy
    cases yv <;> try trivial
    · obtain ⟨S, e, hS⟩ := vr_str hy
      subst hS; simp only [e]; rfl
    · simp only [vr_nilSlc hy]; rfl
    · rcases vr_slc hy with ⟨k, cap, _, _, _, _, _, e⟩ | ⟨a, hn, _, _, e⟩
      · simp only [e]; rfl
      · simp only [e, hn]; rfl
  have first0 : ∀ {yv : AV}, VR κ yv (ρc y) → (match yv with | .nilSlc | .slc .. | .str _ => (Builtin.firstCells i.size 0 (ρc y)).run P w = .ok ([] : List Value).toArray w | _ => True) := by
    intro yv hy
    cases yv <;> try trivial
    · obtain ⟨S, e, hS⟩ := vr_str hy
      simp [e, Builtin.firstCells]
    · simp [vr_nilSlc hy, Builtin.firstCells]
    · rcases vr_slc hy with ⟨k, cap, _, _, _, _, _, e⟩ | ⟨a, hn, _, _, e⟩ <;> simp [e, Builtin.firstCells, loadCells, loadCellsFrom]
  have st0 : ∀ (base : Option Addr), (match base with | some a => (storeCells a []).run P w = .ok () w | none => w = w) := by
    intro base; cases base <;> simp [storeCells]
  have hslc : ∀ {b off k c es}, VR κ (.slc b off k c es) (ρc x) → ∃ a cap, ρc x = .slice (some a) k cap := by
    intro b off k c es hx
    rcases vr_slc hx with ⟨kk, cap, _, _, _, _, _, e⟩ | ⟨a, hn, _, _, e⟩
    · exact ⟨_, _, e⟩
    · subst hn; exact ⟨_, _, e⟩
  simp only [mop] at hm
  split at hm
  · rename_i hx
    rw [hx] at r1
    have ex := vr_nilSlc r1
    have hl := srclen r2
    have hf := first0 r2
    split at hm <;> first | (cases hm; done) | skip
    · rename_i hy
      rw [hy] at hl hf
      cases hm
      exact ⟨κ, _, w, fin none 0 0 0 0 [] w ex hl rfl hf rfl, .int _ _, Step.refl hr, fun _ _ _ => rfl⟩
    · rename_i b off n c es hy
      rw [hy] at hl hf
      cases hm
      exact ⟨κ, _, w, fin none 0 0 n 0 [] w ex hl (by simp) hf rfl, .int _ _, Step.refl hr, fun _ _ _ => rfl⟩
    · rename_i s hy
      rw [hy] at hl hf
      cases hm
      exact ⟨κ, _, w, fin none 0 0 _ 0 [] w ex hl (by simp) hf rfl, .int _ _, Step.refl hr, fun _ _ _ => rfl⟩
  · rename_i b off k c es' hx
    rw [hx] at r1
    obtain ⟨a0, cap0, ex⟩ := hslc r1
    have hl := srclen r2
    have hf := first0 r2
    split at hm
    case isFalse => cases hm
    rename_i hes
    subst hes
    split at hm
    · rename_i hy
      rw [hy] at hl hf
      cases hm
      exact ⟨κ, _, w, fin _ _ _ 0 0 [] w ex hl (by simp) hf (st0 (some a0)), .int _ _, Step.refl hr, fun _ _ _ => rfl⟩
    · rename_i b' off' n c' es'' hy
      rw [hy] at hl hf
      split at hm
      case isFalse => cases hm
      rename_i hes
      subst hes
      split at hm
      · rename_i hz
        cases hm
        exact ⟨κ, _, w, fin _ _ _ n 0 [] w ex hl hz.symm hf (st0 (some a0)), .int _ _, Step.refl hr, fun _ _ _ => rfl⟩
      · rename_i hz
        split at hm
        · rename_i l hrdn
          split at hm
          · rename_i hone
            simp only [Option.map_eq_some_iff] at hm
            obtain ⟨M₂, hw, hm⟩ := hm
            cases hm
            rw [hy] at r2
            rcases vr_slc r2 with ⟨kk', cap', hkb', _, _, _, _, ey⟩ | ⟨_, hn, _, _, _⟩
            · rcases vr_slc r1 with ⟨kk, cap, hkb, _, _, _, _, ex'⟩ | ⟨_, hn, _, _, _⟩
              · obtain ⟨L, g1, g2, g3⟩ := hr.rdn (P := P) hrdn hkb'
                obtain ⟨w', hw', st⟩ := hr.wrs (P := P) hw g2 hone hkb
                exact ⟨κ, _, w', fin _ _ _ n (min n k) L w' ex' hl rfl (by rw [ey]; simpa [Builtin.firstCells] using g3) hw', .int _ _, st, fun _ _ _ => rfl⟩
              · omega
            · omega
          · cases hm
        · cases hm
    · rename_i s hy
      rw [hy] at hl hf
      split at hm
      case isFalse => cases hm
      rename_i hes1
      split at hm
      · rename_i hz
        cases hm
        exact ⟨κ, _, w, fin _ _ _ _ 0 [] w ex hl hz.symm hf (st0 (some a0)), .int _ _, Step.refl hr, fun _ _ _ => rfl⟩
      · rename_i hz
        simp only [Option.map_eq_some_iff] at hm
        obtain ⟨M₂, hw, hm⟩ := hm
        cases hm
        rw [hy] at r2
        obtain ⟨S, ey, hS⟩ := vr_str r2
        rcases vr_slc r1 with ⟨kk, cap, hkb, _, _, _, _, ex'⟩ | ⟨_, hn, _, _, _⟩
        · have hone : AV.allOne (byteCells (s.take (min s.length k))) = true := by
            exact allOne_bytes _
          obtain ⟨w', hw', st⟩ := hr.wrs (P := P) hw (bytes_VRs (κ := κ) _) hone hkb
          refine ⟨κ, _, w', fin _ _ _ _ (min s.length k) _ w' ex' hl rfl ?_ hw', .int _ _, st, fun _ _ _ => rfl⟩
          rw [ey]
          subst hS
          simp only [Builtin.firstCells, Sem.run_pure]
          congr 1
          apply Array.ext'
          simp [List.extract_eq_take_drop]
        · omega
    · cases hm
  · cases hm
theorem bytesOf_VRs : ∀ {l : List AV} {s : List UInt8} {L : List Value}, bytesOf l = some s → VRs κ l L → ∃ ns : List Int, L = ns.map (Value.int .u8) ∧ s = ns.map (fun n => UInt8.ofNat n.toNat)
  | [], s, L, h, hv => by cases hv; simp [bytesOf] at h; subst h; exact ⟨[], rfl, rfl⟩
  | a :: l, s, L, h, hv => by
    unfold bytesOf at h
    split at h
    · rename_i heq; cases heq
    · rename_i n r heq
      cases heq
      simp only [Option.map_eq_some_iff] at h
      obtain ⟨s', hs', rfl⟩ := h
      cases hv with
      | cons _ V _ L' hV hs =>
        have := vr_int hV
        subst this
        obtain ⟨ns, rfl, rfl⟩ := bytesOf_VRs hs' hs
        exact ⟨n :: ns, rfl, rfl⟩
    · cases h
theorem push_all : ∀ (ns : List Int) (s : ByteArray), (forIn (m := Sem) (ns.map (Value.int .u8)) s (fun c r => match c with
      | Value.int .u8 n => pure (ForInStep.yield (r.push (UInt8.ofNat n.toNat)))
      | _ => do
        stuck "bytesToString: byte expected"
        pure (ForInStep.yield r))).run P w = .ok ⟨(s.data.toList ++ ns.map (fun n => UInt8.ofNat n.toNat)).toArray⟩ w
  | [], s => by simp
  | n :: ns, s => by
    simp only [List.map_cons, List.forIn_cons, Sem.run_bind, Sem.run_pure, Result.andThen_ok]
    rw [push_all ns]
    simp
theorem ms_b2s (h : OR κ ρ ρc) {o : Oper} {s t e : TypeId} {x : Operand} {x' : Opd} (hx : lowOpd x = some x') (hs : P.underlying s = some (.slice e)) (he : P.underlying e = some (.int .u8)) (ht : P.underlying t = some .string)
    (ho : o.op = .convert s t x) : MSound P κ M w ρ ρc id o (.b2s x') := by
  intro v M' hm hr hid hk
  have h1 := h _ _ hx
  have fin : ∀ V, (Conv.bytesToString (ρc x)).run P w = .ok V w → (∃ a n c, ρc x = .slice a n c) → Ran ((execOp ρc o).run P w) v V w := by
    rintro V hV ⟨a, n, c, e1⟩
    left
    simp only [execOp, ho]
    refine run_v ?_
    rw [e1] at hV ⊢
    simp only [convert, Sem.run_bind, run_underlying hs, run_underlying ht, Result.andThen_ok, run_underlying he, hV]
  have emp : ∀ a : Addr, (Conv.bytesToString (.slice (some a) 0 0)).run P w = .ok (.string .empty) w := by
    intro a; simp [Conv.bytesToString, loadCells, loadCellsFrom]
  simp only [mop] at hm
  split at hm
  · rename_i hx'
    rw [hx'] at h1
    have e1 := vr_nilSlc h1
    cases hm
    exact ⟨κ, .string .empty, w, fin _ (by rw [e1]; rfl) ⟨_, _, _, e1⟩, .str _ _ rfl, Step.refl hr, fun _ _ _ => rfl⟩
  · rename_i b off n c es hx'
    rw [hx'] at h1
    split at hm
    case isFalse => cases hm
    split at hm
    · rename_i hn
      cases hm
      subst hn
      rcases vr_slc h1 with ⟨k, cap, hkb, _, _, _, _, e1⟩ | ⟨a, _, _, _, e1⟩
      · exact ⟨κ, .string .empty, w, fin _ (by rw [e1]; simp [Conv.bytesToString, loadCells, loadCellsFrom]) ⟨_, _, _, e1⟩, .str _ _ rfl, Step.refl hr, fun _ _ _ => rfl⟩
      · exact ⟨κ, .string .empty, w, fin _ (by rw [e1]; exact emp a) ⟨_, _, _, e1⟩, .str _ _ rfl, Step.refl hr, fun _ _ _ => rfl⟩
    · rename_i hn
      split at hm
      case h_2 => cases hm
      rename_i l hrdn
      simp only [Option.map_eq_some_iff] at hm
      obtain ⟨s', hs', hm⟩ := hm
      cases hm
      rcases vr_slc h1 with ⟨k, cap, hkb, _, _, _, _, e1⟩ | ⟨a, hn0, _, _, e1⟩
      · obtain ⟨L, g1, g2, g3⟩ := hr.rdn (P := P) hrdn hkb
        obtain ⟨ns, rfl, rfl⟩ := bytesOf_VRs hs' g2
        refine ⟨κ, .string ⟨(ns.map (fun n => UInt8.ofNat n.toNat)).toArray⟩, w, fin _ ?_ ⟨_, _, _, e1⟩, .str _ _ (by simp), Step.refl hr, fun _ _ _ => rfl⟩
        rw [e1]
        simp only [Conv.bytesToString, Sem.run_bind, g3, Result.andThen_ok]
        rw [← Array.forIn_toList]
        have := push_all (P := P) (w := w) ns ⟨#[]⟩
        simp only [ByteArray.empty, ByteArray.emptyWithCapacity]
        refine Eq.trans (congrArg (fun (r : Result ByteArray) => r.andThen fun a w' => Sem.run P (pure (Value.string a)) w') this) ?_
        simp
      · omega
  · cases hm
theorem modify_push (xs : Array Obj) (a : Obj) (f : Obj → Obj) : (xs.push a).modify xs.size f = xs.push (f a) := by
  apply Array.ext_getElem?
  intro i
  rw [Array.getElem?_modify, Array.getElem?_push, Array.getElem?_push]
  by_cases h : i = xs.size
  · simp [h]
  · simp [h, Ne.symm h]
theorem frozen_room {C : Array Value} {i : Nat} (h : i < C.size) (n : Nat) (hn : n = C.size) : ¬ (n ≤ i ∧ i < n + 1) := by omega
theorem ms_s2b (h : OR κ ρ ρc) {o : Oper} {s t e : TypeId} {x : Operand} {x' : Opd} (hx : lowOpd x = some x') (hs : P.underlying s = some .string) (ht : P.underlying t = some (.slice e)) (he : P.underlying e = some (.int .u8))
    (ho : o.op = .convert s t x) : MSound P κ M w ρ ρc id o (.s2b x') := by
  intro v M' hm hr hid hk
  replace hid := hid.resolve_left (by simp [MOp.noid])
  replace hk := hk.resolve_left (by simp [MOp.noid])
  have h1 := h _ _ hx
  simp only [mop] at hm
  split at hm
  · rename_i l hx'
    rw [hx'] at h1
    obtain ⟨S, e1, hS⟩ := vr_str h1
    split at hm
    case isFalse => cases hm
    cases hm
    subst hS
    have hq : S.size ≤ (Question.appendCap S.size 0 e).cut (w.tape w.drawn (.appendCap S.size 0 e)) := by simp only [Question.cut]; omega
    generalize hcap : (Question.appendCap S.size 0 e).cut (w.tape w.drawn (.appendCap S.size 0 e)) = cap at hq
    let C : Array Value := (S.data.map fun b => Value.int .u8 b.toNat) ++ Array.replicate (cap - S.size) (.int .u8 0)
    have hCs : C.size = cap := by
      have : S.data.size = S.size := rfl
      simp [C, this]; omega
    have hl : (byteCells S.data.toList).length = S.size := by simp only [byteCells, List.length_map]; rfl
    have st := hr.drew.rel.new hid hk (.cells (byteCells S.data.toList) true) (.cells C e (C.size, C.size + 1)) C.size (fun κ' _ => by
      refine ⟨C, e, _, alloc_heap _ _, rfl, by simp only [hl]; omega, ?_, fun _ i hi => frozen_room hi _ rfl⟩
      intro i v hv
      have hv' : i < S.size ∧ ∃ b, S.data.toList[i]? = some b ∧ v = .int .u8 b.toNat := by
        simp only [byteCells, List.getElem?_map, Option.map_eq_some_iff] at hv
        obtain ⟨b, hb, rfl⟩ := hv
        refine ⟨?_, b, hb, rfl⟩
        rcases Nat.lt_or_ge i S.data.toList.length with g | g
        · exact g
        · rw [List.getElem?_eq_none g] at hb; cases hb
      obtain ⟨hi, b, hb, rfl⟩ := hv'
      refine ⟨.int .u8 b.toNat, ?_, .int _ _⟩
      have : S.data[i]? = some b := by simpa using hb
      simp only [C, Nat.zero_add]
      rw [Array.getElem?_append_left (by simpa using hi)]
      simp [this])
    refine ⟨_, .slice (some ⟨w.heap.size, 0, none⟩) S.size cap, _, .inl ?_, ?_, hr.drew.trans st, put_other _ _ _⟩
    · simp only [execOp, ho, e1]
      refine Eq.trans (b := (((Conv.stringToBytes e S).run P w).andThen fun a w' => .ok (.value a) w')) ?_ ?_
      · simp [convert, run_underlying hs, run_underlying ht, run_underlying he]
      · have hfz : (w.drew.alloc (.cells C e)).freeze ⟨w.heap.size, C.size, none⟩ 1 = w.drew.alloc (.cells C e (C.size, C.size + 1)) := by
          unfold World.freeze
          rw [if_neg (by omega)]
          show ({ (w.drew.alloc (.cells C e)) with heap := (w.heap.push (.cells C e)).modify w.heap.size _ } : World) = _
          rw [modify_push]
          rfl
        have hsh : (w.drew.alloc (.cells C e)).shape? w.heap.size = some (e, C.size) := by
          unfold World.shape?
          have : (w.drew.alloc (.cells C e)).heap[w.heap.size]? = some (.cells C e) := alloc_heap w.drew _
          rw [this]
        simp only [Conv.stringToBytes, Sem.run_bind, run_choose, Question.forced, Bool.false_eq_true, if_false, Result.andThen_ok, hcap, World.drew_eq, newRow, run_newObj, Sem.run_pure, markStringish, run_shape]
        have hal : ({ w.drew with heap := w.drew.heap.push (.cells C e) } : World) = w.drew.alloc (.cells C e) := rfl
        simp only [World.alloc_eq]
        simp only [World.size_drew]
        rw [hsh]
        simp only [run_freeze, Result.andThen_ok]
        rw [hfz]
    · exact .slc id 0 S.size none 1 ⟨w.heap.size, 0, C.size⟩ cap (Kap.put_same _ _ _) hq (by simp [hCs]) (by simp) (by simp [hCs])
  · cases hm
end
end Go.A
end
section
namespace Go.A
section
variable {P : Program} {κ : Kap} {w : World}
def ckFields (empty : Bool) (d : Nat) (xs : Array Value) : List Field → Sem Unit
  | [] => pure ()
  | f :: fs => if f.name ≠ "_" then do
      Instr.checkKey empty d f.type (← part f.type xs f.offset)
      ckFields empty d xs fs
    else ckFields empty d xs fs
def ckElems (empty : Bool) (d : Nat) (e : TypeId) (size : Nat) (xs : Array Value) : List Nat → Sem Unit
  | [] => pure ()
  | i :: is => do
    Instr.checkKey empty d e (← part e xs (i * size))
    ckElems empty d e size xs is
theorem run_ck_struct (empty : Bool) (d : Nat) (t : TypeId) (xs : Array Value) {fs : Array Field} (ht : P.underlying t = some (.struct fs)) :
    (Instr.checkKey empty (d + 1) t (.agg xs)).run P w = (ckFields empty d xs fs.toList).run P w := by
  simp only [Instr.checkKey, Sem.run_bind, run_underlying ht, Result.andThen_ok]
  rw [← Array.forIn_toList]
  generalize fs.toList = l
  clear ht
  induction l generalizing w with
  | nil => simp [ckFields]
  | cons f l ih =>
    simp only [List.forIn_cons, ckFields, Sem.run_bind, Sem.run_ite]
    split
    · generalize (part f.type xs f.offset).run P w = r1
      cases r1 with
      | ok a w1 =>
        simp only [Result.andThen_ok]
        generalize (Instr.checkKey empty d f.type a).run P w1 = r2
        cases r2 with
        | ok b w2 => simp only [Result.andThen_ok, Sem.run_pure]; exact ih
        | halt x w2 => simp [Result.andThen]
      | halt x w1 => simp [Result.andThen]
    · simp only [Sem.run_pure, Result.andThen_ok]
      exact ih
theorem run_ck_array (empty : Bool) (d : Nat) (t e : TypeId) (n : Nat) {i : TypeInfo} (xs : Array Value) (ht : P.underlying t = some (.array n e)) (hi : P.info? e = some i) :
    (Instr.checkKey empty (d + 1) t (.agg xs)).run P w = (ckElems empty d e i.size xs (List.range' 0 n)).run P w := by
  simp only [Instr.checkKey, Sem.run_bind, run_underlying ht, Result.andThen_ok]
  simp only [Std.Legacy.Range.forIn_eq_forIn_range', Std.Legacy.Range.size, Nat.sub_zero, Nat.add_sub_cancel, Nat.div_one]
  generalize List.range' 0 n = l
  clear ht
  induction l generalizing w with
  | nil => simp [ckElems]
  | cons f l ih =>
    simp only [List.forIn_cons, ckElems, Sem.run_bind, run_size hi, Result.andThen_ok]
    generalize (part e xs (f * i.size)).run P w = r1
    cases r1 with
    | ok a w1 =>
      simp only [Result.andThen_ok]
      generalize (Instr.checkKey empty d e a).run P w1 = r2
      cases r2 with
      | ok b w2 => simp only [Result.andThen_ok, Sem.run_pure]; exact ih
      | halt x w2 => simp [Result.andThen]
    | halt x w1 => simp [Result.andThen]
theorem ckFields_sound {f : TypeId → Option EqT} {d : Nat} {empty : Bool}
    (ih : ∀ t x, f t = some x → keyOK x = true → ∀ {v : AV} {V : Value}, VR κ v V → aeq x v v = some true → (Instr.checkKey empty d t V).run P w = .ok () w)
    {xs : List AV} {X : Array Value} (hx : VRs κ xs X.toList) :
    ∀ (fs : List Field) (l : List (Nat × Nat × Bool × EqT)), lowFs P f fs = some l → keyOKs l = true → aeqs l xs xs = some true → (ckFields empty d X fs).run P w = .ok () w
  | [], l, hl, _, h => by simp [ckFields]
  | g :: fs, l, hl, hk, h => by
    simp only [lowFs] at hl
    split at hl
    · cases hl
    · rename_i hname
      split at hl
      · rename_i dd i e m h1 h2 h3 h4
        cases hl
        simp only [keyOKs, Bool.and_eq_true] at hk
        simp only [aeqs] at h
        split at h
        · rename_i x y hxp hyp
          rw [hxp] at hyp; cases hyp
          obtain ⟨V, hV, hVr⟩ := part_VR (w := w) h1 h2 hx hxp
          have hn : g.name ≠ "_" := hname
          split at h
          · rename_i he
            have := ih _ _ h3 hk.1 hVr he
            simp only [ckFields, hn, ne_eq, not_false_eq_true, if_true, Sem.run_bind, hV, Result.andThen_ok, this]
            exact ckFields_sound ih hx fs m h4 hk.2 h
          · cases h
          · cases h
        · cases h
      · cases hl
theorem ckElems_sound {d : Nat} {empty : Bool} {e : TypeId} {x : EqT} {dd : TypeDesc} {i : TypeInfo} (hd : P.underlying e = some dd) (hi : P.info? e = some i)
    (ih : ∀ {v : AV} {V : Value}, VR κ v V → aeq x v v = some true → (Instr.checkKey empty d e V).run P w = .ok () w)
    {xs : List AV} {X : Array Value} (hx : VRs κ xs X.toList) :
    ∀ (n s : Nat), aeqa n i.size (aggD dd) x s xs xs = some true → (ckElems empty d e i.size X (List.range' s n)).run P w = .ok () w
  | 0, s, h => by simp [ckElems]
  | n + 1, s, h => by
    simp only [aeqa] at h
    split at h
    · rename_i u v hu hv
      rw [hu] at hv; cases hv
      obtain ⟨V, hV, hVr⟩ := part_VR (w := w) hd hi hx hu
      split at h
      · rename_i he
        simp only [List.range'_succ, ckElems, Sem.run_bind, hV, Result.andThen_ok, ih hVr he]
        exact ckElems_sound hd hi ih hx n (s + 1) h
      · cases h
      · cases h
    · cases h
theorem ck_sound {empty : Bool} : ∀ (n : Nat) (t : TypeId) (x : EqT), eqLow P n t = some x → keyOK x = true → ∀ (d : Nat), n ≤ d → ∀ {v : AV} {V : Value}, VR κ v V → aeq x v v = some true →
    (Instr.checkKey empty d t V).run P w = .ok () w
  | 0, t, x, h => by simp [eqLow] at h
  | n + 1, t, x, h => by
    intro hok d hd v V hv hb
    obtain ⟨d, rfl⟩ : ∃ e, d = e + 1 := ⟨d - 1, by omega⟩
    simp only [eqLow] at h
    have prim : ∀ dd, P.underlying t = some dd → (match dd with | .interface _ | .array _ _ | .struct _ => False | _ => True) → (Instr.checkKey empty (d + 1) t V).run P w = .ok () w := by
      intro dd hu hdd
      simp only [Instr.checkKey, Sem.run_bind, run_underlying hu, Result.andThen_ok]
      cases dd <;> first | exact hdd.elim | rfl
    split at h
    · rename_i hu; exact prim _ hu trivial
    · rename_i hu; exact prim _ hu trivial
    · rename_i hu; exact prim _ hu trivial
    · rename_i hu; exact prim _ hu trivial
    · rename_i hu; exact prim _ hu trivial
    · rename_i hu; exact prim _ hu trivial
    · rename_i hu; exact prim _ hu trivial
    · cases h; simp [keyOK] at hok
    · rename_i fs hu
      split at h
      · cases h
      · simp only [Option.map_eq_some_iff] at h
        obtain ⟨l, hl, rfl⟩ := h
        cases hv <;> simp [aeq] at hb
        rename_i xs X hX
        rw [run_ck_struct empty d t X hu]
        exact ckFields_sound (fun t x hx hk => ck_sound n t x hx hk d (by omega)) hX _ _ hl (by simpa [keyOK] using hok) hb
    · rename_i len e hu
      split at h
      · rename_i dd i x' h1 h2 h3
        cases h
        cases hv <;> simp [aeq] at hb
        rename_i xs X hX
        rw [run_ck_array empty d t e len X hu h2]
        exact ckElems_sound h1 h2 (ck_sound n e x' h3 (by simpa [keyOK] using hok) d (by omega)) hX len 0 hb
      · cases h
    · cases h
/-- What a look-up finds. -/
def FoundR (κ : Kap) (r : Option (Nat × AV)) (R : Option (Nat × Value)) : Prop :=
  match r, R with
  | none, none => True
  | some (i, v), some (j, V) => i = j ∧ VR κ v V
  | _, _ => False
theorem sameNow_aeq {kt : EqT} {kind : TypeDesc} {a a' : AV} {A A' : Value} {b b' : Bool} (h : VR κ a A) (h' : VR κ a' A') (hs : Instr.sameNow kind A A' = some b) (ha : aeq kt a a' = some b') : b = b' := by
  unfold Instr.sameNow at hs
  split at hs
  · split at hs <;> cases hs
    rename_i k hk
    subst hk
    cases h <;> cases h' <;> first | exact absurd ha aeq_junk | skip
    · cases kt <;> simp [aeq] at ha
    · cases kt <;> simp [aeq] at ha
      exact ha
  · cases hs
    cases h <;> cases h' <;> first | exact absurd ha aeq_junk | skip
    · cases kt <;> simp [aeq] at ha
    · rename_i l s hl l' s' hl'
      cases kt <;> simp [aeq] at ha
      subst hl hl'
      rw [← ha]
      rw [beq_toListBytes, ByteArray.toList_eq, ByteArray.toList_eq]
  · cases hs
    cases h <;> cases h' <;> first | exact absurd ha aeq_junk | skip
    · cases kt <;> simp [aeq] at ha
    · cases kt <;> simp [aeq] at ha
      exact ha
  · cases hs
theorem find_sound {n : Nat} {t : TypeId} {kt : EqT} (hk : eqLow P n t = some kt) (hn : n ≤ 10000) {k : AV} {Kv : Value} (hkv : VR κ k Kv) (kind : TypeDesc) :
    ∀ (es : List Ent) (Es : List MapEntry) (i : Nat) (r : Option (Nat × AV)), L2 (EntR κ) es Es → afind kt k es i = some r →
      ∃ R, FoundR κ r R ∧ (Instr.findAsking t Kv Es i).run P w = .ok R w ∧ (Instr.findNow kind Kv Es i = none ∨ Instr.findNow kind Kv Es i = some R)
  | [], _, i, r, .nil, h => by
    simp [afind] at h; subst h
    exact ⟨none, trivial, by simp [Instr.findAsking], .inr rfl⟩
  | (a, v, s) :: es, _, i, r, .cons (b := E) (m := Es) he hs, h => by
    cases he with
    | mk _ _ A V _ ha hv =>
    simp only [afind] at h
    have eqr : ∀ b, aeq kt k a = some b → (Op.equal t Kv A).run P w = .ok b w := fun b hb => eq_sound n t kt hk 10000 hn hkv ha hb
    split at h
    · rename_i hb
      cases h
      refine ⟨some (i, V), ⟨rfl, hv⟩, by simp [Instr.findAsking, eqr _ hb], ?_⟩
      simp only [Instr.findNow]
      cases hsn : Instr.sameNow kind Kv A with
      | none => exact .inl rfl
      | some b => rw [sameNow_aeq hkv ha hsn hb]; exact .inr rfl
    · rename_i hb
      obtain ⟨R, h1, h2, h3⟩ := find_sound hk hn hkv kind es Es (i + 1) r hs h
      refine ⟨R, h1, by simp [Instr.findAsking, eqr _ hb, h2], ?_⟩
      simp only [Instr.findNow]
      cases hsn : Instr.sameNow kind Kv A with
      | none => exact .inl rfl
      | some b => rw [sameNow_aeq hkv ha hsn hb]; exact h3
    · cases h
theorem findKey_sound {n : Nat} {t : TypeId} {d : TypeDesc} {kt : EqT} (hd : P.underlying t = some d) (hk : eqLow P n t = some kt) (hn : n ≤ 10000) {k : AV} {Kv : Value} (hkv : VR κ k Kv)
    {es : List Ent} {Es : List MapEntry} {r : Option (Nat × AV)} (hs : L2 (EntR κ) es Es) (h : afind kt k es 0 = some r) : ∃ R, FoundR κ r R ∧ (Instr.findKey t Kv Es).run P w = .ok R w := by
  obtain ⟨R, h1, h2, h3⟩ := find_sound (w := w) hk hn hkv d es Es 0 r hs h
  refine ⟨R, h1, ?_⟩
  simp only [Instr.findKey, Sem.run_bind, run_underlying hd, Result.andThen_ok]
  rcases h3 with h3 | h3
  · simp only [h3, h2]
  · simp only [h3, Sem.run_pure]
end
end Go.A
end
section
namespace Go.A
section
variable {P : Program} {κ : Kap} {M : Mem} {w : World} {ρ : Opd → AV} {ρc : Operand → Value} {id : Nat}
theorem L2.length {α β : Type} {R : α → β → Prop} : ∀ {l : List α} {m : List β}, L2 R l m → l.length = m.length
  | _, _, .nil => rfl
  | _, _, .cons _ hs => by simp [hs.length]
theorem L2.append {α β : Type} {R : α → β → Prop} : ∀ {l l' : List α} {m m' : List β}, L2 R l m → L2 R l' m' → L2 R (l ++ l') (m ++ m')
  | _, _, _, _, .nil, h => h
  | _, _, _, _, .cons h hs, h' => .cons h (hs.append h')
theorem L2.getE {α β : Type} {R : α → β → Prop} : ∀ {l : List α} {m : List β}, L2 R l m → ∀ {i : Nat} {a : α}, l[i]? = some a → ∃ b, m[i]? = some b ∧ R a b
  | _, _, .nil, i, a, h => by simp at h
  | _, _, .cons h hs, 0, a, ha => by simp at ha; subst ha; exact ⟨_, by simp, h⟩
  | _, _, .cons h hs, i + 1, a, ha => by
    simp at ha
    obtain ⟨b, hb, hr⟩ := hs.getE ha
    exact ⟨b, by simpa using hb, hr⟩
theorem vr_map {r : Nat} {V : Value} (h : VR κ (.map r) V) : ∃ k, κ r = some k ∧ V = .map (some k.blk) := by
  cases h with | map _ k hk => exact ⟨k, hk, rfl⟩
theorem vr_nilMap {V : Value} (h : VR κ .nilMap V) : V = .map none := by cases h; rfl
/-- The entries that a map value holds. -/
theorem ents_sound (hr : Rel κ M w) {m : AV} {V : Value} (hm : VR κ m V) {es : List Ent} (h : entsOf M m = some es) :
    (V = .map none ∧ es = []) ∨ ∃ (b : Nat) (Es : Array MapEntry) (clock : Nat), V = .map (some b) ∧ w.heap[b]? = some (.map Es clock) ∧ L2 (EntR κ) es Es.toList := by
  unfold entsOf at h
  split at h
  · cases h; exact .inl ⟨vr_nilMap hm, rfl⟩
  · rename_i r
    split at h
    · rename_i es' clk hB
      have : es' = es := by cases h; rfl
      subst this
      obtain ⟨k, hk, rfl⟩ := vr_map hm
      obtain ⟨k', hk', Es, hEs, hl⟩ := hr.obj _ _ hB
      rw [hk] at hk'; cases hk'
      exact .inr ⟨_, Es, clk, rfl, hEs, hl⟩
    · cases h
  · cases h
theorem ms_look (h : OR κ ρ ρc) {o : Oper} {t kT eT : TypeId} {d : TypeDesc} {kt : EqT} {zero : AV} {ok : Bool} {m k : Operand} {m' k' : Opd} (hm' : lowOpd m = some m') (hk' : lowOpd k = some k') (ht : P.underlying t = some (.map kT eT))
    (hd : P.underlying kT = some d) (hkt : eqLow P 6 kT = some kt) (hok : keyOK kt = true) (hz : zeroT P eT = some zero) (ho : o.op = .lookup t m k ok) : MSound P κ M w ρ ρc id o (.look kt zero ok m' k') := by
  intro v M' hm hr hid hk
  have r1 := h _ _ hm'
  have r2 := h _ _ hk'
  obtain ⟨Z, hZ, hZr⟩ := zeroT_sound (P := P) (w := w) (κ := κ) hz
  simp only [mop] at hm
  split at hm
  · cases hm
  rename_i hfit
  have hfit' : aeq kt (ρ k') (ρ k') = some true := Classical.byContradiction hfit
  split at hm
  case h_2 => cases hm
  rename_i es hes
  have hck : ∀ e, (Instr.checkKey e 10000 kT (ρc k)).run P w = .ok () w := fun e => ck_sound 6 kT kt hkt hok 10000 (by omega) r2 hfit'
  -- the look-up itself
  have key : ∀ (r : Option (Nat × AV)), afind kt (ρ k') es 0 = some r → ∃ R, FoundR κ r R ∧ (execOp ρc o).run P w =
      .ok (.value (match R with | some (_, V) => (if ok then .tuple #[V, .bool true] else V) | none => (if ok then .tuple #[Z, .bool false] else Z))) w := by
    intro r hf
    rcases ents_sound hr r1 hes with ⟨e1, e2⟩ | ⟨b, Es, clock, e1, hEs, hl⟩
    · subst e2
      simp [afind] at hf
      subst hf
      refine ⟨none, trivial, ?_⟩
      simp only [execOp, ho, Instr.lookup]
      refine run_v ?_
      have hfk : (Instr.findKey kT (ρc k) []).run P w = .ok none w := by
        simp [Instr.findKey, run_underlying hd, Instr.findNow]
      simp only [Sem.run_bind, run_underlying ht, Result.andThen_ok, e1, Sem.run_pure, hck, hfk, hZ]
    · obtain ⟨R, h1, h2⟩ := findKey_sound (w := w) hd hkt (by omega) r2 hl hf
      refine ⟨R, h1, ?_⟩
      simp only [execOp, ho, Instr.lookup]
      refine run_v ?_
      have hg := run_getObj (P := P) hEs (by simp)
      simp only [Sem.run_bind, run_underlying ht, Result.andThen_ok, e1, hg, Sem.run_pure, hck, h2]
      cases R with
      | none => simp only [Sem.run_bind, hZ, Result.andThen_ok, Sem.run_pure]
      | some q => obtain ⟨j, V⟩ := q; simp only [Sem.run_bind, Sem.run_pure, Result.andThen_ok]
  split at hm
  · rename_i j u hf
    cases hm
    obtain ⟨R, h1, h2⟩ := key _ hf
    cases R with
    | none => exact h1.elim
    | some q =>
      obtain ⟨j', V⟩ := q
      refine ⟨κ, _, w, .inl h2, ?_, Step.refl hr, fun _ _ _ => rfl⟩
      cases ok
      · exact h1.2
      · exact .tup _ _ (.cons _ _ _ _ h1.2 (.cons _ _ _ _ (.bool _) .nil))
  · rename_i hf
    cases hm
    obtain ⟨R, h1, h2⟩ := key _ hf
    cases R with
    | some q => obtain ⟨j', V⟩ := q; exact h1.elim
    | none =>
      refine ⟨κ, _, w, .inl h2, ?_, Step.refl hr, fun _ _ _ => rfl⟩
      cases ok
      · exact hZr
      · exact .tup _ _ (.cons _ _ _ _ hZr (.cons _ _ _ _ (.bool _) .nil))
  · cases hm
/-- Setting the key and the value of an entry. -/
theorem setKV_L2 {k v : AV} {Kv V : Value} (hk : VR κ k Kv) (hv : VR κ v V) : ∀ {es : List Ent} {Es : List MapEntry}, L2 (EntR κ) es Es → ∀ i : Nat, L2 (EntR κ) (setKV k v es i) (Es.modify i fun e => { e with key := Kv, val := V })
  | _, _, .nil, i => by simp [setKV]; exact .nil
  | _, _, .cons (.mk a u A U s ha hu) hs, 0 => by simp [setKV]; exact .cons (.mk _ _ _ _ _ hk hv) hs
  | _, _, .cons (.mk a u A U s ha hu) hs, i + 1 => by simp [setKV]; exact .cons (.mk _ _ _ _ _ ha hu) (setKV_L2 hk hv hs i)
theorem keyStays {old new : Value} : (Instr.keyThatStays old new).run P w = .ok new w ∨ (Instr.keyThatStays old new).run P w = .ok new w.drew ∨ (Instr.keyThatStays old new).run P w = .ok old w.drew := by
  unfold Instr.keyThatStays
  split
  · exact .inl rfl
  · simp only [Sem.run_bind, run_choose, Question.forced]
    simp only [show ((2 : Nat) = 1) = False from by simp, decide_false, Bool.false_eq_true, if_false, Result.andThen_ok, World.drew_eq, Sem.run_pure]
    split
    · exact .inr (.inl rfl)
    · exact .inr (.inr rfl)
theorem ms_mup (h : OR κ ρ ρc) {o : Oper} {t kT eT : TypeId} {d : TypeDesc} {kt : EqT} {m k x : Operand} {m' k' x' : Opd} (hm' : lowOpd m = some m') (hk' : lowOpd k = some k') (hx' : lowOpd x = some x') (ht : P.underlying t = some (.map kT eT))
    (hd : P.underlying kT = some d) (hkt : eqLow P 6 kT = some kt) (hok : keyOK kt = true) (ho : o.op = .mapUpdate t m k x ∨ o.op = .insert t m k x) : MSound P κ M w ρ ρc id o (.mup kt m' k' x') := by
  intro v M' hm hr hid hk
  have r1 := h _ _ hm'
  have r2 := h _ _ hk'
  have r3 := h _ _ hx'
  simp only [mop] at hm
  split at hm
  · cases hm
  rename_i hfit
  have hfit' : aeq kt (ρ k') (ρ k') = some true := Classical.byContradiction hfit
  have hck : ∀ e, (Instr.checkKey e 10000 kT (ρc k)).run P w = .ok () w := fun e => ck_sound 6 kT kt hkt hok 10000 (by omega) r2 hfit'
  have fin : ∀ w', (Instr.mapUpdate t (ρc m) (ρc k) (ρc x)).run P w = .ok () w' → Ran ((execOp ρc o).run P w) .junk undef w' := by
    intro w' hw
    right
    refine ⟨?_, rfl, rfl⟩
    rcases ho with ho | ho <;> simp [execOp, ho, hw]
  split at hm
  case h_2 => cases hm
  rename_i r hmr
  rw [hmr] at r1
  split at hm
  case h_2 => cases hm
  rename_i es clock hB
  obtain ⟨kk, hkr, e1⟩ := vr_map r1
  obtain ⟨kk', hkr', Es, hEs, hl⟩ := hr.obj _ _ hB
  rw [hkr] at hkr'; cases hkr'
  have hg := run_getObj (P := P) hEs (by simp)
  have hb : kk.blk < w.heap.size := hr.inb _ _ hkr
  split at hm
  · rename_i j u hf
    split at hm
    case h_2 => cases hm
    rename_i a ua sa hj
    split at hm
    case isFalse => cases hm
    rename_i hkq
    have hka := keq_eq hkq
    cases hm
    obtain ⟨R, h1, h2⟩ := findKey_sound (w := w) hd hkt (by omega) r2 hl hf
    cases R with
    | none => exact h1.elim
    | some q =>
      obtain ⟨j', V⟩ := q
      obtain ⟨rfl, _⟩ := h1
      obtain ⟨E, hE, hEr⟩ := hl.getE hj
      have hE' : Es[j]? = some E := by simpa using hE
      have hold : VR κ (ρ k') E.key := by
        cases hEr with | mk _ _ A _ _ hA _ => rw [← hka]; exact hA
      have done : ∀ (Kn : Value) (w₁ : World), VR κ (ρ k') Kn → Step κ M w κ M w₁ → w₁.heap = w.heap → (Instr.keyThatStays E.key (ρc k)).run P w = .ok Kn w₁ →
          ∃ κ' V w', Ran ((execOp ρc o).run P w) .junk V w' ∧ VR κ' .junk V ∧ Step κ M w κ' (M.set r (.mp (setKV (ρ k') (ρ x') es j) clock)) w' ∧ (∀ B, B < M.next → (B ≠ id ∨ true = true) → κ' B = κ B) := by
        intro Kn w₁ hKn st1 hheap hrun
        have hEs₁ : w₁.heap[kk.blk]? = some (.map Es clock) := by rw [hheap]; exact hEs
        have hb₁ : kk.blk < w₁.heap.size := by rw [hheap]; exact hb
        have st2 := st1.rel.setObj hB rfl hkr (.map (Es.modify j fun e => { e with key := Kn, val := ρc x }) clock) (ob' := .mp (setKV (ρ k') (ρ x') es j) clock)
          ⟨_, set_heap hb₁ _, by rw [Array.toList_modify]; exact setKV_L2 hKn r3 hl j⟩
        refine ⟨κ, undef, _, fin _ ?_, .junk _, st1.trans st2, fun _ _ _ => rfl⟩
        have hs := run_setObj (P := P) (o' := .map (Es.modify j fun e => { e with key := Kn, val := ρc x }) clock) hEs₁ (by simp)
        have hk1 : ((Es[j]?).map (·.key)).getD (ρc k) = E.key := by rw [hE']; rfl
        simp only [Instr.mapUpdate, Sem.run_bind, run_underlying ht, Result.andThen_ok, e1, hg, hck, h2, hk1, hrun, hs]
      rcases keyStays (P := P) (w := w) (old := E.key) (new := ρc k) with hks | hks | hks
      · exact done _ w r2 (Step.refl hr) rfl hks
      · exact done _ w.drew r2 hr.drew rfl hks
      · exact done _ w.drew hold hr.drew rfl hks
  · rename_i hf
    cases hm
    obtain ⟨R, h1, h2⟩ := findKey_sound (w := w) hd hkt (by omega) r2 hl hf
    cases R with
    | some q => obtain ⟨j', V⟩ := q; exact h1.elim
    | none =>
      have st2 := hr.setObj hB rfl hkr (.map (Es.push { key := ρc k, val := ρc x, born := clock }) (clock + 1)) (ob' := .mp (es ++ [(ρ k', ρ x', clock)]) (clock + 1))
        ⟨_, set_heap hb _, by rw [Array.toList_push]; exact hl.append (.cons (.mk _ _ _ _ _ r2 r3) .nil)⟩
      refine ⟨κ, undef, _, fin _ ?_, .junk _, st2, fun _ _ _ => rfl⟩
      have hs := run_setObj (P := P) (o' := .map (Es.push { key := ρc k, val := ρc x, born := clock }) (clock + 1)) hEs (by simp)
      simp only [Instr.mapUpdate, Sem.run_bind, run_underlying ht, Result.andThen_ok, e1, hg, hck, h2, hs]
  · cases hm
theorem Mem.set_self {r : Nat} {ob : AObj} (h : M.get r = some ob) : M.set r ob = M := by
  unfold Mem.set
  congr 1
  funext x
  split
  · rename_i e; rw [e, h]
  · rfl
theorem setK_L2 {Kn : Value} : ∀ {es : List Ent} {Es : List MapEntry}, L2 (EntR κ) es Es → ∀ {i : Nat} {a : AV} {u : AV} {s : Nat}, es[i]? = some (a, u, s) → VR κ a Kn → L2 (EntR κ) es (Es.modify i fun e => { e with key := Kn })
  | _, _, .nil, i, a, u, s, h, _ => by simp at h
  | _, _, .cons (.mk a u A U s ha hu) hs, 0, _, _, _, h, hk => by simp at h; obtain ⟨rfl, rfl, rfl⟩ := h; simp; exact .cons (.mk _ _ _ _ _ hk hu) hs
  | _, _, .cons he hs, i + 1, _, _, _, h, hk => by simp at h; simp; exact .cons he (setK_L2 hs h hk)
theorem ms_men (h : OR κ ρ ρc) {o : Oper} {t kT eT : TypeId} {d : TypeDesc} {kt : EqT} {zero : AV} {m k : Operand} {m' k' : Opd} (hm' : lowOpd m = some m') (hk' : lowOpd k = some k') (ht : P.underlying t = some (.map kT eT))
    (hd : P.underlying kT = some d) (hkt : eqLow P 6 kT = some kt) (hok : keyOK kt = true) (hz : zeroT P eT = some zero) (ho : o.op = .mapEntry t m k) : MSound P κ M w ρ ρc id o (.men kt zero m' k') := by
  intro v M' hm hr hid hk
  have r1 := h _ _ hm'
  have r2 := h _ _ hk'
  obtain ⟨Z, hZ, hZr⟩ := zeroT_sound (P := P) (w := w) (κ := κ) hz
  simp only [mop] at hm
  split at hm
  · cases hm
  rename_i hfit
  have hfit' : aeq kt (ρ k') (ρ k') = some true := Classical.byContradiction hfit
  have hck : ∀ e, (Instr.checkKey e 10000 kT (ρc k)).run P w = .ok () w := fun e => ck_sound 6 kT kt hkt hok 10000 (by omega) r2 hfit'
  have fin : ∀ v V w', (Instr.mapEntry t (ρc m) (ρc k)).run P w = .ok V w' → Ran ((execOp ρc o).run P w) v V w' := by
    intro v V w' hw
    left
    simp [execOp, ho, hw]
  split at hm
  case h_2 => cases hm
  rename_i r hmr
  rw [hmr] at r1
  split at hm
  case h_2 => cases hm
  rename_i es clock hB
  obtain ⟨kk, hkr, e1⟩ := vr_map r1
  obtain ⟨kk', hkr', Es, hEs, hl⟩ := hr.obj _ _ hB
  rw [hkr] at hkr'; cases hkr'
  have hg := run_getObj (P := P) hEs (by simp)
  have hb : kk.blk < w.heap.size := hr.inb _ _ hkr
  split at hm
  · rename_i j u hf
    split at hm
    case h_2 => cases hm
    rename_i a ua sa hj
    split at hm
    case isFalse => cases hm
    rename_i hkq
    have hka := keq_eq hkq
    cases hm
    obtain ⟨R, h1, h2⟩ := findKey_sound (w := w) hd hkt (by omega) r2 hl hf
    cases R with
    | none => exact h1.elim
    | some q =>
      obtain ⟨j', V⟩ := q
      obtain ⟨rfl, hV⟩ := h1
      obtain ⟨E, hE, hEr⟩ := hl.getE hj
      have hE' : Es[j]? = some E := by simpa using hE
      have hold : VR κ (ρ k') E.key := by
        cases hEr with | mk _ _ A _ _ hA _ => rw [← hka]; exact hA
      have hborn : E.born = sa := by cases hEr; rfl
      have done : ∀ (Kn : Value) (w₁ : World), VR κ (ρ k') Kn → Step κ M w κ M w₁ → w₁.heap = w.heap → (Instr.keyThatStays E.key (ρc k)).run P w = .ok Kn w₁ →
          ∃ κ' V' w', Ran ((execOp ρc o).run P w) (.tup [u, agoInt sa]) V' w' ∧ VR κ' (.tup [u, agoInt sa]) V' ∧ Step κ M w κ' M w' ∧ (∀ B, B < M.next → (B ≠ id ∨ true = true) → κ' B = κ B) := by
        intro Kn w₁ hKn st1 hheap hrun
        have hEs₁ : w₁.heap[kk.blk]? = some (.map Es clock) := by rw [hheap]; exact hEs
        have hb₁ : kk.blk < w₁.heap.size := by rw [hheap]; exact hb
        have st2 := st1.rel.setObj hB rfl hkr (.map (Es.modify j fun e => { e with key := Kn }) clock) (ob' := .mp es clock)
          ⟨_, set_heap hb₁ _, by rw [Array.toList_modify]; exact setK_L2 hl hj (by rw [hka]; exact hKn)⟩
        rw [Mem.set_self hB] at st2
        refine ⟨κ, .tuple #[V, goInt sa], _, fin _ _ _ ?_, .tup _ _ (.cons _ _ _ _ hV (.cons _ _ _ _ (.int _ _) .nil)), st1.trans st2, fun _ _ _ => rfl⟩
        have hs := run_setObj (P := P) (o' := .map (Es.modify j fun e => { e with key := Kn }) clock) hEs₁ (by simp)
        have hk1 : ((Es[j]?).map (·.key)).getD (ρc k) = E.key := by rw [hE']; rfl
        have hk2 : ((Es[j]?).map (fun e => (e.born : Int))).getD 0 = (sa : Int) := by rw [hE']; simp [hborn]
        simp only [Instr.mapEntry, Sem.run_bind, run_underlying ht, Result.andThen_ok, e1, hg, hck, h2, hk1, hk2, hrun, hs, Sem.run_pure]
      rcases keyStays (P := P) (w := w) (old := E.key) (new := ρc k) with hks | hks | hks
      · exact done _ w r2 (Step.refl hr) rfl hks
      · exact done _ w.drew r2 hr.drew rfl hks
      · exact done _ w.drew hold hr.drew rfl hks
  · rename_i hf
    cases hm
    obtain ⟨R, h1, h2⟩ := findKey_sound (w := w) hd hkt (by omega) r2 hl hf
    cases R with
    | some q => obtain ⟨j', V⟩ := q; exact h1.elim
    | none =>
      have st2 := hr.setObj hB rfl hkr (.map (Es.push { key := ρc k, val := Z, born := clock }) (clock + 1)) (ob' := .mp (es ++ [(ρ k', zero, clock)]) (clock + 1))
        ⟨_, set_heap hb _, by rw [Array.toList_push]; exact hl.append (.cons (.mk _ _ _ _ _ r2 hZr) .nil)⟩
      refine ⟨κ, .tuple #[Z, goInt clock], _, fin _ _ _ ?_, .tup _ _ (.cons _ _ _ _ hZr (.cons _ _ _ _ (.int _ _) .nil)), st2, fun _ _ _ => rfl⟩
      have hs := run_setObj (P := P) (o' := .map (Es.push { key := ρc k, val := Z, born := clock }) (clock + 1)) hEs (by simp)
      simp only [Instr.mapEntry, Sem.run_bind, run_underlying ht, Result.andThen_ok, e1, hg, hck, h2, hZ, hs, Sem.run_pure]
  · cases hm
theorem stamp_sound {n : Int} {v : AV} {V : Value} (hv : VR κ v V) : ∀ {es es' : List Ent} {Es : List MapEntry}, L2 (EntR κ) es Es → setStamp n v es = some es' →
    ∃ i, Es.findIdx? (fun e => (e.born : Int) == n) = some i ∧ L2 (EntR κ) es' (Es.modify i fun e => { e with val := V })
  | _, _, _, .nil, h => by simp [setStamp] at h
  | _, es', _, .cons (.mk a u A U s ha hu) hs, h => by
    simp only [setStamp] at h
    split at h
    · rename_i hb
      cases h
      exact ⟨0, by simp [List.findIdx?_cons, hb], by simp; exact .cons (.mk _ _ _ _ _ ha hv) hs⟩
    · rename_i hb
      simp only [Option.map_eq_some_iff] at h
      obtain ⟨es₁, h₁, rfl⟩ := h
      obtain ⟨i, hi, hl⟩ := stamp_sound hv hs h₁
      have hb' : ((s : Int) == n) = false := by simpa using hb
      exact ⟨i + 1, by simp [List.findIdx?_cons, hb', hi], by simp; exact .cons (.mk _ _ _ _ _ ha hu) hl⟩
theorem ms_mst (h : OR κ ρ ρc) {o : Oper} {t : TypeId} {m s x : Operand} {m' s' x' : Opd} (hm' : lowOpd m = some m') (hs' : lowOpd s = some s') (hx' : lowOpd x = some x') (ho : o.op = .entryStore t m s x) :
    MSound P κ M w ρ ρc id o (.mst m' s' x') := by
  intro v M' hm hr hid hk
  have r1 := h _ _ hm'
  have r2 := h _ _ hs'
  have r3 := h _ _ hx'
  simp only [mop] at hm
  split at hm
  case h_2 => cases hm
  rename_i r kn n hmr hn
  rw [hmr] at r1
  rw [hn] at r2
  split at hm
  case h_2 => cases hm
  rename_i es clock hB
  split at hm
  case h_2 => cases hm
  rename_i es' hes'
  cases hm
  obtain ⟨kk, hkr, e1⟩ := vr_map r1
  obtain ⟨kk', hkr', Es, hEs, hl⟩ := hr.obj _ _ hB
  rw [hkr] at hkr'; cases hkr'
  have hg := run_getObj (P := P) hEs (by simp)
  have hb : kk.blk < w.heap.size := hr.inb _ _ hkr
  obtain ⟨i, hi, hl'⟩ := stamp_sound r3 hl hes'
  have hi' : Es.findIdx? (fun e => (e.born : Int) == n) = some i := by
    obtain ⟨l⟩ := Es
    simpa using hi
  have st2 := hr.setObj hB rfl hkr (.map (Es.modify i fun e => { e with val := ρc x }) clock) (ob' := .mp es' clock) ⟨_, set_heap hb _, by rw [Array.toList_modify]; exact hl'⟩
  refine ⟨κ, undef, _, .inr ⟨?_, rfl, rfl⟩, .junk _, st2, fun _ _ _ => rfl⟩
  have hs := run_setObj (P := P) (o' := .map (Es.modify i fun e => { e with val := ρc x }) clock) hEs (by simp)
  have : (Instr.entryStore t (ρc m) (ρc s) (ρc x)).run P w = .ok () { w with heap := w.heap.setIfInBounds kk.blk (.map (Es.modify i fun e => { e with val := ρc x }) clock) } := by
    simp only [Instr.entryStore, e1, vr_int r2, asInt, asIntOf, Sem.run_bind, Sem.run_pure, Result.andThen_ok, hg, hi', hs]
  simp [execOp, ho, this]
end
end Go.A
end
section
namespace Go.A
def intD : TypeDesc → Bool
  | .int _ => true
  | _ => false
/-- An operation on memory, out of the model's. -/
def lowM (P : Program) (o : Oper) : Option MOp :=
  match o.op with
  | .box _ x => (lowOpd x).map .box
  | .alloc t => (zeroCells P t).map .zal
  | .buildSlice t n parts => match P.underlying t with
    | some (.slice e) => match P.info? e, zeroCells P e with
      | some i, some z => if n * i.size ≤ 2 ^ 24 then (lowParts (fun j => some (j * i.size, i.size)) parts.toList).map (.bsl n i.size z) else none
      | _, _ => none
    | _ => none
  | .load t x => match lowOpd x, P.underlying t, P.info? t with
    | some a, some d, some i => if aggD d then some (.loadn i.size a) else some (.load a)
    | _, _, _ => none
  | .store t a x => match lowOpd a, lowOpd x, P.info? t with
    | some a, some b, some i => some (.store i.size a b)
    | _, _, _ => none
  | .makeMap _ none => some .mkm
  | .makeSlice t l c => match P.underlying t with
    | some (.slice e) => match P.info? e, zeroCells P e, lowOpd l, lowOpd c with
      | some i, some z, some a, some b => some (.mks i.size i.bytes z a b)
      | _, _, _, _ => none
    | _ => none
  | .slice t x lo hi none => match lowOpd x, lowOpt lo, lowOpt hi, P.underlying t with
    | some a, some l, some h, some (.array n e) => match P.info? e with
      | some i => some (.sla n i.size l h a)
      | none => none
    | _, _, _, _ => none
  | .lookup t m k ok => match lowOpd m, lowOpd k, P.underlying t with
    | some a, some b, some (.map kT eT) => match P.underlying kT, eqLow P 6 kT, zeroT P eT with
      | some _, some kt, some z => if keyOK kt then some (.look kt z ok a b) else none
      | _, _, _ => none
    | _, _, _ => none
  | .mapUpdate t m k x | .insert t m k x => match lowOpd m, lowOpd k, lowOpd x, P.underlying t with
    | some a, some b, some c, some (.map kT _) => match P.underlying kT, eqLow P 6 kT with
      | some _, some kt => if keyOK kt then some (.mup kt a b c) else none
      | _, _ => none
    | _, _, _, _ => none
  | .mapEntry t m k => match lowOpd m, lowOpd k, P.underlying t with
    | some a, some b, some (.map kT eT) => match P.underlying kT, eqLow P 6 kT, zeroT P eT with
      | some _, some kt, some z => if keyOK kt then some (.men kt z a b) else none
      | _, _, _ => none
    | _, _, _ => none
  | .entryStore _ m s x => match lowOpd m, lowOpd s, lowOpd x with
    | some a, some b, some c => some (.mst a b c)
    | _, _, _ => none
  | .convert s t x => match lowOpd x, P.underlying s, P.underlying t with
    | some a, some (.slice e), some .string => match P.underlying e with
      | some (.int .u8) => some (.b2s a)
      | _ => none
    | some a, some .string, some (.slice e) => match P.underlying e with
      | some (.int .u8) => some (.s2b a)
      | _ => none
    | _, _, _ => none
  | .range t x => match lowOpd x, P.underlying t with
    | some a, some .string => some (.rng a)
    | _, _ => none
  | .next x true => (lowOpd x).map .nxt
  | .call { callee := .builtin .len, args, argTypes } => match args.toList, argTypes[0]? with
    | [x], some t => match lowOpd x, P.underlying t with
      | some a, some (.map _ _) => some (.lenm a)
      | _, _ => none
    | _, _ => none
  | .call { callee := .builtin .append, args, argTypes } => match args.toList, argTypes[0]?, argTypes[1]? with
    | [x, y], some sT, some xT => match lowOpd x, lowOpd y, P.underlying xT, P.underlying sT with
      | some a, some b, some dx, some (.slice e) => match P.info? e with
        | some i => match i.zero with
          | some Z => if Z.cells.size = i.size ∧ intD dx = false then some (.app i.size i.bytes a b) else none
          | none => none
        | none => none
      | _, _, _, _ => none
    | _, _, _ => none
  | .call { callee := .builtin .copy, args, argTypes } => match args.toList, argTypes[0]? with
    | [x, y], some t => match lowOpd x, lowOpd y, P.underlying t with
      | some a, some b, some (.slice e) => match P.info? e with
        | some i => some (.cpy i.size a b)
        | none => none
      | _, _, _ => none
    | _, _ => none
  | _ => none
section
variable {P : Program} {κ : Kap} {M : Mem} {w : World} {ρ : Opd → AV} {ρc : Operand → Value} {id : Nat}
theorem mop_sound (h : OR κ ρ ρc) {o : Oper} {p : MOp} (hl : lowM P o = some p) : MSound P κ M w ρ ρc id o p := by
  unfold lowM at hl
  split at hl
  · rename_i t x ho
    simp only [Option.map_eq_some_iff] at hl
    obtain ⟨y, hy, rfl⟩ := hl
    exact ms_box h hy ho
  · rename_i t ho
    simp only [Option.map_eq_some_iff] at hl
    obtain ⟨z, hz, rfl⟩ := hl
    exact ms_zal hz ho
  · rename_i t n parts ho
    split at hl
    · rename_i e ht
      split at hl
      · rename_i i z hi hz
        split at hl
        · rename_i hn
          simp only [Option.map_eq_some_iff] at hl
          obtain ⟨ps, hps, rfl⟩ := hl
          exact ms_bsl h ht hi hz hn hps ho
        · cases hl
      · cases hl
    · cases hl
  · rename_i t x ho
    split at hl
    · rename_i a d i ha hd hi
      split at hl <;> cases hl
      · rename_i hagg; exact ms_loadn h ha hd hagg hi ho
      · rename_i hagg; exact ms_load h ha hd (by simpa using hagg) ho
    · cases hl
  · rename_i t a x ho
    split at hl <;> cases hl
    rename_i ha hb hi
    exact ms_store h ha hb hi ho
  · rename_i t ho
    cases hl
    exact ms_mkm ho
  · rename_i t l c ho
    split at hl
    · rename_i e ht
      split at hl <;> cases hl
      rename_i hi hz ha hb
      exact ms_mks h ht hi hz ha hb ho
    · cases hl
  · rename_i t x lo hi ho
    split at hl
    · rename_i ha h1 h2 ht
      split at hl <;> cases hl
      rename_i hI
      exact ms_sla h ha h1 h2 ht hI ho
    · cases hl
  · rename_i t m k ok ho
    split at hl
    · rename_i ha hb ht
      split at hl
      · rename_i hd hkt hz
        split at hl <;> cases hl
        exact ms_look h ha hb ht hd hkt (by assumption) hz ho
      · cases hl
    · cases hl
  · rename_i t m k x ho
    split at hl
    · rename_i ha hb hc ht
      split at hl
      · rename_i hd hkt
        split at hl <;> cases hl
        exact ms_mup h ha hb hc ht hd hkt (by assumption) (.inl ho)
      · cases hl
    · cases hl
  · rename_i t m k x ho
    split at hl
    · rename_i ha hb hc ht
      split at hl
      · rename_i hd hkt
        split at hl <;> cases hl
        exact ms_mup h ha hb hc ht hd hkt (by assumption) (.inr ho)
      · cases hl
    · cases hl
  · rename_i t m k ho
    split at hl
    · rename_i ha hb ht
      split at hl
      · rename_i hd hkt hz
        split at hl <;> cases hl
        exact ms_men h ha hb ht hd hkt (by assumption) hz ho
      · cases hl
    · cases hl
  · rename_i t m s x ho
    split at hl <;> cases hl
    rename_i ha hb hc
    exact ms_mst h ha hb hc ho
  · rename_i s t x ho
    split at hl
    · rename_i ha hs ht
      split at hl <;> cases hl
      rename_i he
      exact ms_b2s h ha hs he ht ho
    · rename_i ha hs ht
      split at hl <;> cases hl
      rename_i he
      exact ms_s2b h ha hs ht he ho
    · cases hl
  · rename_i t x ho
    split at hl <;> cases hl
    rename_i ha hd
    exact ms_rng h ha hd ho
  · rename_i x ho
    simp only [Option.map_eq_some_iff] at hl
    obtain ⟨y, hy, rfl⟩ := hl
    exact ms_nxt h hy ho
  · rename_i args ts ho
    split at hl
    · rename_i x t ha ht
      split at hl <;> cases hl
      rename_i hx hd
      exact ms_lenm h ha ht hx hd ho
    · cases hl
  · rename_i args ts ho
    split at hl
    · rename_i x y sT xT ha h0 h1
      split at hl
      · rename_i hx hy hdx hs
        split at hl
        · rename_i i hi
          split at hl
          · rename_i Z hZ
            split at hl <;> cases hl
            rename_i hc
            exact ms_app h ha h0 h1 hx hy hdx (fun k e => by have := hc.2; rw [e] at this; simp [intD] at this) hs hi hZ hc.1 ho
          · cases hl
        · cases hl
      · cases hl
    · cases hl
  · rename_i args ts ho
    split at hl
    · rename_i x y t ha h0
      split at hl
      · rename_i hx hy ht
        split at hl <;> cases hl
        rename_i hi
        exact ms_cpy h ha h0 hx hy ht hi ho
      · cases hl
    · cases hl
  · cases hl
end
end Go.A
end
