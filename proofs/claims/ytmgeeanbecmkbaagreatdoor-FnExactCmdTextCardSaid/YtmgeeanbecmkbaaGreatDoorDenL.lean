/- DenL: the model's own operations on values that are read as plain data. -/
import Derived.Test.YtmgeeanbecmkbaaGreatDoorDenR
namespace Go.Proofs.YtmgeeanbecmkbaaGreatDoor.Den
open Go

def zeroCells : Ty → List Value
  | .int k => [.int k 0] | .bool => [.bool false] | .str => [.string ⟨#[]⟩] | .err => [.nilIface] | .ptr => [.pointer none] | .unit => [] | .pair a b => zeroCells a ++ zeroCells b | .slice _ _ => [.slice none 0 0]

def zeroVal (u : Ty) : Value := if u.isSt = true then .agg (zeroCells u).toArray else (zeroCells u).headD undef

def FieldsOK (C : Cfg) : List Field → Ty → Nat → Prop
  | [], .unit, _ => True
  | f :: fs, .pair a b, o => f.offset = o ∧ C.ty f.type = some a ∧ f.name ≠ "_" ∧ 0 < a.size ∧ FieldsOK C fs b (o + a.size)
  | _, _, _ => False

def DescOK (P : Program) (C : Cfg) (t : TypeId) : Ty → Prop
  | .int k => P.underlying t = some (.int k)
  | .bool => P.underlying t = some .bool
  | .str => P.underlying t = some .string
  | .err => ∃ ms, P.underlying t = some (.interface ms)
  | .ptr => ∃ e, P.underlying t = some (.pointer e)
  | .unit => ∃ fs, P.underlying t = some (.struct fs) ∧ FieldsOK C fs.toList .unit 0
  | .pair a b => ∃ fs, P.underlying t = some (.struct fs) ∧ FieldsOK C fs.toList (.pair a b) 0
  | .slice e v => P.underlying t = some (.slice e) ∧ C.ty e = some v ∧ 0 < v.size

structure TyOK (P : Program) (C : Cfg) (t : TypeId) (u : Ty) : Prop where
  desc : DescOK P C t u
  info : ∃ i, P.info? t = some i ∧ i.size = u.size ∧ i.zero = some (zeroVal u) ∧ i.bytes ≤ 65536
  eqg : u.isSt = true → P.eqGuardType P.depth t = false ∧ P.stoodInHeld t = false

def CfgOK (P : Program) (C : Cfg) : Prop := ∀ t u, C.ty t = some u → TyOK P C t u

theorem tyIs_eq {C : Cfg} {t : TypeId} {u : Ty} (h : tyIs C t u = true) : C.ty t = some u := by
  unfold tyIs at h
  split at h
  · rename_i v hv; rw [hv, of_decide_eq_true h]
  · cases h

theorem add_eq (g o j : Nat) : (⟨g, o, none⟩ : Addr).add j = ⟨g, o + j, none⟩ := by
  unfold Addr.add; split
  · rename_i h; subst h; rfl
  · rfl

theorem reads_zero (R : Nat → Nat → Prop) (w : World) : ∀ u : Ty, Reads R w u u.zero (zeroCells u)
  | .int _ => rfl
  | .bool => rfl
  | .str => rfl
  | .err => rfl
  | .ptr => rfl
  | .unit => rfl
  | .pair a b => ⟨_, _, rfl, reads_zero R w a, reads_zero R w b⟩
  | .slice _ _ => ⟨none, 0, rfl, Nat.le_refl _, fun i h => absurd h (Nat.not_lt_zero i)⟩

theorem cells_of_toVal {R : Nat → Nat → Prop} {w : World} {u : Ty} {x : u.D} {cs : List Value} {c : Value} (h : Reads R w u x cs) (hv : toVal u cs c) : c.cells = cs.toArray := by
  unfold toVal at hv
  split at hv
  · subst hv; rfl
  · subst hv
    have h1 := h.one c (by simp)
    cases c <;> first | rfl | (simp [Value.oneCell'] at h1)

section
variable {P : Program} {C : Cfg}

theorem isAgg_st {t : TypeId} {u : Ty} (h : TyOK P C t u) (w : World) : (isAgg t).run P w = .ok u.isSt w := by
  have hd := h.desc
  cases u <;> simp only [DescOK] at hd <;> unfold isAgg <;> simp only [Sem.run_bind]
  · rw [run_underlying hd]; rfl
  · rw [run_underlying hd]; rfl
  · rw [run_underlying hd]; rfl
  · obtain ⟨ms, hd⟩ := hd; rw [run_underlying hd]; rfl
  · obtain ⟨ms, hd⟩ := hd; rw [run_underlying hd]; rfl
  · obtain ⟨fs, hd, _⟩ := hd; rw [run_underlying hd]; rfl
  · obtain ⟨fs, hd, _⟩ := hd; rw [run_underlying hd]; rfl
  · rw [run_underlying hd.1]; rfl

theorem sizeOf_run {t : TypeId} {u : Ty} (h : TyOK P C t u) (w : World) : (sizeOf t).run P w = .ok u.size w := by
  obtain ⟨i, hi, hs, _⟩ := h.info
  simp [sizeOf, typeInfo, hi, hs]

theorem zeroValue_run {t : TypeId} {u : Ty} (h : TyOK P C t u) (w : World) : (zeroValue t).run P w = .ok (zeroVal u) w := by
  obtain ⟨i, hi, _, hz, _⟩ := h.info
  simp [zeroValue, typeInfo, hi, hz]

theorem size_one {u : Ty} (h : u.isSt = false) : u.size = 1 := by cases u <;> first | rfl | (simp [Ty.isSt] at h)

theorem run_loadVar_reads {R : Nat → Nat → Prop} {w : World} {t : TypeId} {u : Ty} {x : u.D} {cs : List Value} {g o : Nat} (hT : TyOK P C t u) (hr : Reads R w u x cs)
    (hc : ∀ j v, cs[j]? = some v → w.cell? ⟨g, o + j, none⟩ = some v) : ∃ c, toVal u cs c ∧ (loadVar t ⟨g, o, none⟩).run P w = .ok c w := by
  by_cases hs : u.isSt = true
  · refine ⟨.agg cs.toArray, by simp [toVal, hs], ?_⟩
    have hl : (loadCells ⟨g, o, none⟩ cs.length).run P w = .ok cs.toArray w := run_loadCells_list w ⟨g, o, none⟩ cs fun j v hv => by rw [add_eq]; exact hc j v hv
    rw [hr.size] at hl
    unfold loadVar
    simp [isAgg_st hT, sizeOf_run hT, hs, hl]
  · have hs' : u.isSt = false := by simpa using hs
    have h1 := hr.size
    rw [size_one hs'] at h1
    match cs, h1 with
    | [c], _ =>
      refine ⟨c, by simp [toVal, hs'], ?_⟩
      have := hc 0 c rfl
      simp only [Nat.add_zero] at this
      unfold loadVar
      simp [isAgg_st hT, hs', this]

theorem run_loadAt_reads {R : Nat → Nat → Prop} {w : World} {t : TypeId} {u : Ty} {x : u.D} {cs : List Value} {g o : Nat} (hT : TyOK P C t u) (hr : Reads R w u x cs)
    (hc : ∀ j v, cs[j]? = some v → w.cell? ⟨g, o + j, none⟩ = some v) : ∃ c, toVal u cs c ∧ (Instr.loadAt t (.pointer (some ⟨g, o, none⟩))).run P w = .ok c w := by
  obtain ⟨c, h1, h2⟩ := run_loadVar_reads hT hr hc
  exact ⟨c, h1, by simp [Instr.loadAt, Instr.sureAddr, h2]⟩

theorem run_storeVar_reads {R : Nat → Nat → Prop} {w : World} {t T : TypeId} {u : Ty} {x : u.D} {cs : List Value} {c : Value} {g o : Nat} {cur : Array Value} (hT : TyOK P C t u) (hr : Reads R w u x cs) (hv : toVal u cs c)
    (hg : w.heap[g]? = some (.cells cur T (0, 0))) (hl : o + u.size ≤ cur.size) :
    (storeVar t ⟨g, o, none⟩ c).run P w = .ok () (w.setRow g (cur.toList.take o ++ cs ++ cur.toList.drop (o + u.size)).toArray) := by
  have hcc := cells_of_toVal hr hv
  have h := run_storeCells_at P g o T cs 0 cur w hg (by rw [hr.size]; simpa using hl) (fun v hv => hr.one v hv)
  unfold storeVar
  simp only [Sem.run_bind, sizeOf_run hT, Result.andThen_ok, hcc, List.size_toArray, hr.size, ne_eq, not_true, if_false]
  simpa [hr.size] using h

theorem run_newVar_cells {w : World} {t : TypeId} {c : Value} {cs : List Value} (h : c.cells = cs.toArray) : (newVar t c).run P w = .ok ⟨w.heap.size, 0, none⟩ (w.alloc (.cells cs.toArray t)) := by
  unfold newVar newRow
  rw [h]
  rfl

theorem zeroVal_cells (u : Ty) : (zeroVal u).cells = (zeroCells u).toArray := by
  cases u <;> rfl

theorem toVal_zero (u : Ty) : toVal u (zeroCells u) (zeroVal u) := by
  cases u <;> simp [toVal, Ty.isSt, zeroVal, zeroCells]

theorem offs_nil (t : Ty) : offs t [] = some (t, 0) := by cases t <;> rfl

theorem fieldsOK_at : ∀ {fs : List Field} {u : Ty} {o k : Nat} {v : Ty}, FieldsOK C fs u o → fieldTy u k = some v → ∃ f d, fs[k]? = some f ∧ f.offset = o + d ∧ C.ty f.type = some v ∧ offs u [k] = some (v, d) ∧ d + v.size ≤ u.size ∧ 0 < v.size
  | [], .unit, _, k, _, _, h2 => by cases k <;> simp [fieldTy] at h2
  | f :: fs, .pair a b, o, 0, v, h, h2 => by
    obtain ⟨h3, h4, _, h6, _⟩ := h
    simp [fieldTy] at h2; subst h2
    exact ⟨f, 0, rfl, by simpa using h3, h4, by simp [offs, offs_nil], by simp [Ty.size], h6⟩
  | f :: fs, .pair a b, o, k + 1, v, h, h2 => by
    obtain ⟨_, _, _, _, h5⟩ := h
    obtain ⟨f', d, p1, p2, p3, p4, p5, p6⟩ := fieldsOK_at h5 (show fieldTy b k = some v from h2)
    exact ⟨f', a.size + d, p1, by omega, p3, by simp [offs, p4], by simp only [Ty.size]; omega, p6⟩
  | [], .int _, _, _, _, h, _ => h.elim
  | [], .bool, _, _, _, h, _ => h.elim
  | [], .str, _, _, _, h, _ => h.elim
  | [], .err, _, _, _, h, _ => h.elim
  | [], .ptr, _, _, _, h, _ => h.elim
  | [], .pair _ _, _, _, _, h, _ => h.elim
  | [], .slice _ _, _, _, _, h, _ => h.elim
  | _ :: _, .int _, _, _, _, h, _ => h.elim
  | _ :: _, .bool, _, _, _, h, _ => h.elim
  | _ :: _, .str, _, _, _, h, _ => h.elim
  | _ :: _, .err, _, _, _, h, _ => h.elim
  | _ :: _, .ptr, _, _, _, h, _ => h.elim
  | _ :: _, .unit, _, _, _, h, _ => h.elim
  | _ :: _, .slice _ _, _, _, _, h, _ => h.elim

theorem struct_of_field {t : TypeId} {u v : Ty} {k : Nat} (hT : TyOK P C t u) (hf : fieldTy u k = some v) :
    ∃ fs f d, P.underlying t = some (.struct fs) ∧ fs[k]? = some f ∧ f.offset = d ∧ C.ty f.type = some v ∧ offs u [k] = some (v, d) ∧ d + v.size ≤ u.size ∧ 0 < v.size := by
  cases u with
  | pair a b =>
    obtain ⟨fs, h1, h2⟩ := hT.desc
    obtain ⟨f, d, p1, p2, p3, p4, p5⟩ := fieldsOK_at h2 hf
    exact ⟨fs, f, d, h1, by simpa using p1, by simpa using p2, p3, p4, p5⟩
  | _ => simp [fieldTy] at hf

theorem run_fieldAt (hC : CfgOK P C) {w : World} {t : TypeId} {u v : Ty} {k g o : Nat} (hT : TyOK P C t u) (hf : fieldTy u k = some v) :
    ∃ d, offs u [k] = some (v, d) ∧ d + v.size ≤ u.size ∧ (Instr.fieldAt t (.pointer (some ⟨g, o, none⟩)) k).run P w = .ok (.pointer (some ⟨g, o + d, none⟩)) w := by
  obtain ⟨fs, f, d, h1, h2, h3, h4, h5, h6, h7⟩ := struct_of_field hT hf
  refine ⟨d, h5, h6, ?_⟩
  have hz : v.size ≠ 0 := by omega
  unfold Instr.fieldAt
  simp only [Sem.run_bind, run_underlying h1, Result.andThen_ok, h2, Instr.sureAddr, Sem.run_pure, fieldPlace, sizeOf_run (hC _ _ h4), if_neg hz, add_eq, h3]
end
end Go.Proofs.YtmgeeanbecmkbaaGreatDoor.Den
