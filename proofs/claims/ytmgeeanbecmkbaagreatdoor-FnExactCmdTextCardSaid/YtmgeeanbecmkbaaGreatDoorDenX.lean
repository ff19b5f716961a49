/- DenX: structs out of parts, stores. -/
import Derived.Test.YtmgeeanbecmkbaaGreatDoorDenW
namespace Go.Proofs.YtmgeeanbecmkbaaGreatDoor.Den
open Go
set_option linter.unusedVariables false

section
variable {P : Program} {C : Cfg} {E : Entry C} {S S' : AS} {X X' : Ctx} {a : Act} {w w' : World}

theorem asDat_rep {t : Ty} {v : AV} {d : Dat} {c : Value} (h : asDat t v = some d) (hv : RepV C X S w v c) : d.t = t ∧ ∃ cs, DatRep X S w d cs ∧ toVal d.t cs c := by
  unfold asDat at h
  split at h
  · rename_i e
    split at h
    · rename_i y hy
      injection h with h; subst h
      obtain ⟨cs, h1, h2⟩ := hv
      rw [castD_mk hy] at h1 h2
      exact ⟨rfl, cs, h1, h2⟩
    · cases h
  · rename_i gs
    split at h
    · rename_i y hy
      injection h with h; subst h
      obtain ⟨cs, h1, h2⟩ := hv
      obtain ⟨p, q⟩ := pack_reads hy h1
      exact ⟨rfl, cs, ⟨p, trivial⟩, by simp [toVal, q, h2]⟩
    · cases h
  · cases h

theorem nth_set : ∀ {fs : List Dat} {cs : List Value} {j : Nat} {z : Dat} {t : Ty}, fs.map (·.t) = tysOf t → nth fs j = some z → FsRep X S w fs cs →
    ∃ c1 c2 c3, cs = c1 ++ (c2 ++ c3) ∧ DatRep X S w z c2 ∧ offs t [j] = some (z.t, c1.length) ∧ fieldTy t j = some z.t ∧
      ∀ (X' : Ctx) (S' : AS) (w' : World) (d : Dat) (c : List Value), Le S S' X X' w w' → d.t = z.t → DatRep X' S' w' d c → FsRep X' S' w' (setNth fs j d) (c1 ++ (c ++ c3)) ∧ (setNth fs j d).map (·.t) = tysOf t
  | [], _, _, _, _, _, h, _ => by simp [nth] at h
  | d0 :: r, cs, 0, d, t, ht, h, hf => by
    simp [nth] at h; subst h
    obtain ⟨c1, c2, rfl, h1, h2⟩ := hf
    cases t <;> simp [tysOf] at ht
    rename_i a b
    refine ⟨[], c1, c2, rfl, h1, by rw [ht.1]; simp [offs, offs_nil], by rw [ht.1]; rfl, fun X' S' w' d c L e hd => ⟨⟨c, c2, rfl, hd, h2.le L⟩, by simp [setNth, tysOf, e, ht]⟩⟩
  | d0 :: r, cs, j + 1, d, t, ht, h, hf => by
    obtain ⟨c1, c2, rfl, h1, h2⟩ := hf
    cases t <;> simp [tysOf] at ht
    rename_i a b
    obtain ⟨e1, e2, e3, rfl, p1, p2, p3, p4⟩ := nth_set (t := b) ht.2 (show nth r j = some d from h) h2
    refine ⟨c1 ++ e1, e2, e3, by simp, p1, ?_, p3, fun X' S' w' d c L e hd => ?_⟩
    · have := h1.1.size
      rw [ht.1] at this
      simp [offs, p2, this]
    · obtain ⟨q1, q2⟩ := p4 X' S' w' d c L e hd
      exact ⟨⟨c1, e1 ++ (c ++ e3), by simp, h1.le L, q1⟩, by simp [setNth, tysOf, q2, ht.1]⟩

theorem foldl_cells : ∀ (vs c1 c2 c3 : List Value) (off i : Nat), c2.length = vs.length → off + i = c1.length →
    (vs.zipIdx i).foldl (fun (cs : Array Value) (x : Value × Nat) => cs.setIfInBounds (off + x.2) x.1) (c1 ++ (c2 ++ c3)).toArray = (c1 ++ (vs ++ c3)).toArray
  | [], c1, c2, c3, off, i, h, _ => by
    have : c2 = [] := List.eq_nil_of_length_eq_zero h
    subst this; rfl
  | v :: vs, c1, c2, c3, off, i, h, ho => by
    cases c2 with
    | nil => simp at h
    | cons y c2 =>
      simp only [List.zipIdx_cons, List.foldl_cons]
      have hset : ((c1 ++ (y :: c2 ++ c3)).toArray).setIfInBounds (off + i) v = ((c1 ++ [v]) ++ (c2 ++ c3)).toArray := by
        rw [ho]
        apply Array.ext'
        simp
      rw [hset, foldl_cells vs (c1 ++ [v]) c2 c3 off (i + 1) (by simpa using h) (by simp; omega)]
      simp

theorem mapM_places : ∀ {fs : List Field} {u : Ty} {o : Nat}, CfgOK P C → FieldsOK C fs u o →
    ∃ pl : List (Nat × Nat), (fs.mapM (m := Sem) fun f => do pure (f.offset, ← sizeOf f.type)).run P w = .ok pl w ∧ ∀ j v, fieldTy u j = some v → ∃ d, offs u [j] = some (v, d) ∧ pl[j]? = some (o + d, v.size)
  | [], .unit, o, _, _ => ⟨[], by simp, fun j v h => by cases j <;> simp [fieldTy] at h⟩
  | f :: fs, .pair a b, o, hC, h => by
    obtain ⟨h1, h2, _, _, h5⟩ := h
    obtain ⟨pl, p1, p2⟩ := mapM_places hC h5
    refine ⟨(f.offset, a.size) :: pl, ?_, fun j v hj => ?_⟩
    · simp only [List.mapM_cons, Sem.run_bind, sizeOf_run (hC _ _ h2), Result.andThen_ok, Sem.run_pure, p1]
    · cases j with
      | zero =>
        simp [fieldTy] at hj; subst hj
        exact ⟨0, by simp [offs, offs_nil], by simp [h1]⟩
      | succ j =>
        obtain ⟨d, q1, q2⟩ := p2 j v hj
        exact ⟨a.size + d, by simp [offs, q1], by simp [q2, Nat.add_assoc]⟩
  | [], .int _, _, _, h => h.elim
  | [], .bool, _, _, h => h.elim
  | [], .str, _, _, h => h.elim
  | [], .err, _, _, h => h.elim
  | [], .ptr, _, _, h => h.elim
  | [], .pair _ _, _, _, h => h.elim
  | [], .slice _ _, _, _, h => h.elim
  | _ :: _, .int _, _, _, h => h.elim
  | _ :: _, .bool, _, _, h => h.elim
  | _ :: _, .str, _, _, h => h.elim
  | _ :: _, .err, _, _, h => h.elim
  | _ :: _, .ptr, _, _, h => h.elim
  | _ :: _, .unit, _, _, h => h.elim
  | _ :: _, .slice _ _, _, _, h => h.elim

theorem fill_cons {place : Nat → Option (Nat × Nat)} {cells : Array Value} {i off size : Nat} {v : Value} {rest : List (Nat × Value)} (hp : place i = some (off, size)) (h1 : v.cells.size = size) (h2 : off + size ≤ cells.size) :
    Instr.fill place cells ((i, v) :: rest) = Instr.fill place (v.cells.toList.zipIdx.foldl (fun cs x => cs.setIfInBounds (off + x.2) x.1) cells) rest := by
  conv => lhs; unfold Instr.fill
  simp only [hp]
  rw [if_neg (by simp [h1]; omega)]
  congr 1
  rw [← Array.foldl_toList]
  simp

theorem fill_rep {u : Ty} {place : Nat → Option (Nat × Nat)} (hpl : ∀ j v, fieldTy u j = some v → ∃ d, offs u [j] = some (v, d) ∧ place j = some (d, v.size)) (hs : Sim C E S X a w) :
    ∀ (ps : List (Nat × Operand)) (fs fs' : List Dat) (cs : List Value), fs.map (·.t) = tysOf u → FsRep X S w fs cs → buildFs fs (ps.map fun p => (p.1, opv C S 0 p.2)) = some fs' →
      ∃ cs', Instr.fill place cs.toArray (ps.map fun p => (p.1, a.eval p.2)) = some cs'.toArray ∧ FsRep X S w fs' cs' ∧ fs'.map (·.t) = tysOf u
  | [], fs, fs', cs, h1, h2, h3 => by
    simp [buildFs] at h3; subst h3
    exact ⟨cs, rfl, h2, h1⟩
  | (j, x) :: ps, fs, fs', cs, h1, h2, h3 => by
    simp only [List.map_cons, buildFs] at h3
    split at h3
    · cases h3
    · rename_i z hz
      split at h3
      · cases h3
      · rename_i d hd
        obtain ⟨et, c, q1, q2⟩ := asDat_rep hd (opv_rep hs 0 x)
        obtain ⟨c1, c2, c3, rfl, p1, p2, p3, p4⟩ := nth_set h1 hz h2
        obtain ⟨dd, r1, r2⟩ := hpl j z.t p3
        rw [p2] at r1; injection r1 with r1; injection r1 with _ r1; subst r1
        obtain ⟨f1, f2⟩ := p4 X S w d c (Le.refl _ _ _) et q1
        have hcc := cells_of_toVal q1.1 q2
        have hl1 := q1.1.size
        rw [et] at hl1
        have hl2 := p1.1.size
        obtain ⟨cs', g1, g2, g3⟩ := fill_rep hpl hs ps (setNth fs j d) fs' (c1 ++ (c ++ c3)) f2 f1 h3
        refine ⟨cs', ?_, g2, g3⟩
        rw [← g1]
        simp only [List.map_cons]
        rw [fill_cons r2 (by rw [hcc]; simpa using hl1) (by simp; omega), hcc]
        have := foldl_cells c c1 c2 c3 c1.length 0 (by rw [hl2, hl1]) (by simp)
        rw [← this]

theorem op_build {Out : Type} (hC : CfgOK P C) {o : Oper} {t : TypeId} {ps : Array (Nat × Operand)} {k : AV → AS → Option Out} {r : Out} {env : Env C} (ho : o.op = .build t ps) (h : evalOp C env S o k = some r) (hs : Sim C E S X a w) :
    ∃ v S', k v S' = some r ∧ OpRes P C E o a w S' v := by
  unfold evalOp at h; rw [ho] at h; dsimp only at h
  split at h
  · rename_i p q ht
    split at h
    · rename_i fs hfs
      have hT := hC _ _ ht
      obtain ⟨fds, hd1, hd2⟩ := hT.desc
      obtain ⟨pl, m1, m2⟩ := mapM_places (P := P) (w := w) hC hd2
      obtain ⟨z1, z2⟩ := zeros_rep (X := X) (S := S) (w := w) (u := .pair p q) rfl (fun l hl => pack_ok hT rfl hl)
      obtain ⟨cs, f1, f2, f3⟩ := fill_rep (place := fun i => pl.toArray[i]?) (fun j v hj => by
        obtain ⟨d, r1, r2⟩ := m2 j v hj
        exact ⟨d, r1, by simpa using r2⟩) hs ps.toList (zeros (.pair p q)) fs (zeroCells (.pair p q)) z2 z1 hfs
      refine ⟨_, S, h, OpRes.value (c := .agg cs.toArray) ?_ hs ⟨cs, f2, rfl⟩⟩
      have m1' : (fds.mapM (m := Sem) fun f => do pure (f.offset, ← sizeOf f.type)).run P w = .ok pl.toArray w := by
        rw [← Array.toArray_toList (xs := fds), List.mapM_toArray]
        rw [Sem.run_map, m1]
        rfl
      unfold execOp; rw [ho]; dsimp only
      have hz : (zeroVal (.pair p q)).cells = (zeroCells (.pair p q)).toArray := zeroVal_cells _
      have hl : (ps.map fun x => (x.1, a.eval x.2)).toList = ps.toList.map fun x => (x.1, a.eval x.2) := by simp
      simp only [Sem.run_bind, Instr.build, zeroValue_run hT, Result.andThen_ok, run_underlying hd1, m1', hz, hl, f1, Sem.run_pure]
    · cases h
  · cases h

theorem Sim.setBox (h : Sim C E S X a w) {b : Nat} {B : Box} {cs : Array Value} (hb : b < S.nb) (hd : S.box b ≠ .dead) (hsh : Sh B = Sh (S.box b)) (hB : BoxRep C X (S.setBox b B) (w.setRow (X.β b) cs) b B) (hRb : ∀ o, ¬ X.R (X.β b) o) :
    Sim C E (S.setBox b B) X a (w.setRow (X.β b) cs) ∧ Le S (S.setBox b B) X X w (w.setRow (X.β b) cs) := by
  have hoth : ∀ g, g ≠ X.β b → (w.setRow (X.β b) cs).heap[g]? = w.heap[g]? := fun g hg => setRow_other w _ g cs hg
  have hsize : (w.setRow (X.β b) cs).heap.size = w.heap.size := by simp [World.setRow]
  have L : Le S (S.setBox b B) X X w (w.setRow (X.β b) cs) := by
    refine ⟨keeps_block (fun _ _ r => r) (fun g o r => hoth g (fun e => hRb o (e ▸ r))), Nat.le_refl _, fun b' hb' => ⟨?_, rfl⟩, Nat.le_refl _, fun _ _ => ⟨Nat.le_refl _, fun _ => ⟨rfl, rfl⟩⟩⟩
    rw [box_setBox]
    split
    · rename_i e; subst e; exact hsh
    · rfl
  have hBd : B ≠ .dead := by
    intro e; subst e
    cases hx : S.box b <;> rw [hx] at hsh hd <;> simp [Sh] at hsh hd
  have dead : ∀ b', (S.setBox b B).box b' ≠ .dead ↔ S.box b' ≠ .dead := by
    intro b'
    rw [box_setBox]
    split
    · rename_i e; subst e; exact ⟨fun _ => hd, fun _ => hBd⟩
    · exact Iff.rfl
  refine ⟨{ dfr := h.dfr, sz := h.sz, tm := fun d => (h.tm d).le L, bx := ?_, idk := ?_, bd := ?_, ib := ?_, ii := h.ii, wb := ?_, wi := h.wi, ent := h.ent.le L, ck := h.ck.trans L.kp, fr := ?_ }, L⟩
  · intro b' hb'
    rw [box_setBox]
    split
    · rename_i e; subst e; exact hB
    · rename_i e
      by_cases hd' : S.box b' = .dead
      · rw [hd']; trivial
      · exact (h.bx b' hb').keep L (hoth _ (fun e2 => e (h.bd b b' hb hb' hd hd' e2.symm))) rfl (fun _ r => r)
  · intro k hk
    exact (h.idk k hk).keep rfl rfl fun g hg => ⟨hoth g (fun e => h.ib k b hk hb hd (e ▸ hg)), fun _ => Iff.rfl⟩
  · intro b1 b2 h1 h2 d1 d2 e
    exact h.bd b1 b2 h1 h2 ((dead b1).1 d1) ((dead b2).1 d2) e
  · intro k b' hk hb' hd'
    exact h.ib k b' hk hb' ((dead b').1 hd')
  · intro b' hb' hd'
    exact h.wb b' hb' ((dead b').1 hd')
  · have hw := h.wb b hb hd
    exact ⟨h.fr.os, h.fr.tape, h.fr.output, by rw [hsize]; exact h.fr.size, fun g hg hW => (hoth g (fun e => by
      subst e
      rcases hw with hw | hw
      · exact hW hw
      · omega)).trans (h.fr.block g hg hW), h.fr.sub, h.fr.new, fun g o r => by rw [hsize]; exact h.fr.lt g o r⟩

theorem setField_rep : ∀ {t : Ty} {x y : t.D} {cs : List Value} {k : Nat} {d e : Dat}, fieldD t x k = some d → setField t x k e = some y → Reads X.R w t x cs →
    ∃ c1 c2 c3, cs = c1 ++ (c2 ++ c3) ∧ offs t [k] = some (d.t, c1.length) ∧ Reads X.R w d.t d.x c2 ∧ d.tag = .ro ∧ e.t = d.t ∧
      ∀ (R' : Nat → Nat → Prop) (w' : World) (c : List Value), Keeps X.R R' w w' → Reads R' w' e.t e.x c → Reads R' w' t y (c1 ++ (c ++ c3))
  | .pair a b, x, y, cs, 0, d, e, h, h2, hr => by
    simp [fieldD] at h; subst h
    simp only [setField] at h2
    split at h2
    · rename_i z hz
      injection h2 with h2; subst h2
      obtain ⟨c1, c2, rfl, r1, r2⟩ := hr
      obtain ⟨et, _⟩ := castD_some hz
      exact ⟨[], c1, c2, rfl, by simp [offs, offs_nil], r1, rfl, et, fun R' w' c K hc => ⟨c, c2, rfl, (castD_reads hz).1 hc, r2.keeps K⟩⟩
    · cases h2
  | .pair a b, x, y, cs, k + 1, d, e, h, h2, hr => by
    simp only [setField] at h2
    split at h2
    · rename_i z hz
      injection h2 with h2; subst h2
      obtain ⟨c1, c2, rfl, r1, r2⟩ := hr
      obtain ⟨e1, e2, e3, rfl, p1, p2, p3, p4, p5⟩ := setField_rep (show fieldD b x.2 k = some d from h) hz r2
      exact ⟨c1 ++ e1, e2, e3, by simp, by simp [offs, p1, r1.size], p2, p3, p4, fun R' w' c K hc => ⟨c1, e1 ++ (c ++ e3), by simp, r1.keeps K, p5 R' w' c K hc⟩⟩
    · cases h2
  | .int _, _, _, _, k, _, _, h, _, _ => by cases k <;> simp [fieldD] at h
  | .bool, _, _, _, k, _, _, h, _, _ => by cases k <;> simp [fieldD] at h
  | .str, _, _, _, k, _, _, h, _, _ => by cases k <;> simp [fieldD] at h
  | .err, _, _, _, k, _, _, h, _, _ => by cases k <;> simp [fieldD] at h
  | .ptr, _, _, _, k, _, _, h, _, _ => by cases k <;> simp [fieldD] at h
  | .unit, _, _, _, k, _, _, h, _, _ => by cases k <;> simp [fieldD] at h
  | .slice _ _, _, _, _, k, _, _, h, _, _ => by cases k <;> simp [fieldD] at h

theorem setSub_rep : ∀ {r : List Nat} {d d2 e d' : Dat} {cs : List Value}, setSub d r e = some d2 → subD d r = some d' → DatRep X S w d cs →
    ∃ c1 c2 c3, cs = c1 ++ (c2 ++ c3) ∧ offs d.t r = some (d'.t, c1.length) ∧ c2.length = d'.t.size ∧ e.t = d'.t ∧ d2.t = d.t ∧
      ∀ (X' : Ctx) (S' : AS) (w' : World) (c : List Value), Le S S' X X' w w' → DatRep X' S' w' e c → DatRep X' S' w' d2 (c1 ++ (c ++ c3))
  | [], d, d2, e, d', cs, h, h1, hd => by
    simp [subD] at h1; subst h1
    simp only [setSub] at h
    split at h
    · rename_i x hx
      injection h with h; subst h
      obtain ⟨et, _⟩ := castD_some hx
      refine ⟨[], cs, [], by simp, by simp [offs_nil], hd.1.size, et, rfl, fun X' S' w' c L hc => ?_⟩
      rw [castD_mk hx] at hc
      simpa using hc
    · cases h
  | j :: r, d, d2, e, d', cs, h, h1, hd => by
    simp only [subD] at h1
    split at h1
    · rename_i z hz
      simp only [setSub, hz] at h
      split at h
      · rename_i z2 hz2
        split at h
        · rename_i x hx
          injection h with h; subst h
          obtain ⟨c1, c2, c3, rfl, p1, p2, p3, p4, p5⟩ := setField_rep hz hx hd.1
          have hz' : DatRep X S w z c2 := ⟨p2, by simp [TagOk, p3]⟩
          obtain ⟨e1, e2, e3, rfl, q1, q2, q3, q4, q5⟩ := setSub_rep hz2 h1 hz'
          refine ⟨c1 ++ e1, e2, e3 ++ c3, by simp, ?_, q2, q3, rfl, fun X' S' w' c L hc => ⟨?_, trivial⟩⟩
          · have := offs_cons p1 q1
            simpa using this
          · have := p5 X'.R w' (e1 ++ (c ++ e3)) L.kp (q5 X' S' w' c L hc).1
            simpa using this
        · cases h
      · cases h
    · cases h1

end
end Go.Proofs.YtmgeeanbecmkbaaGreatDoor.Den
