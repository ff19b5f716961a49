/- DenT: reading memory; operations on numbers, strings, slices. -/
import Derived.Test.YtmgeeanbecmkbaaGreatDoorDenS
import Derived.Laws.StructEq
namespace Go.Proofs.YtmgeeanbecmkbaaGreatDoor.Den
open Go
set_option linter.unusedVariables false

section
variable {P : Program} {C : Cfg} {E : Entry C} {S : AS} {X : Ctx} {a : Act} {w : World}

theorem nth_rep : ∀ {fs : List Dat} {cs : List Value} {j : Nat} {d : Dat} {t : Ty}, fs.map (·.t) = tysOf t → nth fs j = some d → FsRep X S w fs cs →
    ∃ c1 c2 c3, cs = c1 ++ (c2 ++ c3) ∧ DatRep X S w d c2 ∧ offs t [j] = some (d.t, c1.length) ∧ fieldTy t j = some d.t
  | [], _, _, _, _, _, h, _ => by simp [nth] at h
  | d0 :: r, cs, 0, d, t, ht, h, hf => by
    simp [nth] at h; subst h
    obtain ⟨c1, c2, rfl, h1, h2⟩ := hf
    cases t <;> simp [tysOf] at ht
    rename_i a b
    exact ⟨[], c1, c2, rfl, h1, by rw [ht.1]; simp [offs, offs_nil], by rw [ht.1]; rfl⟩
  | d0 :: r, cs, j + 1, d, t, ht, h, hf => by
    obtain ⟨c1, c2, rfl, h1, h2⟩ := hf
    cases t <;> simp [tysOf] at ht
    rename_i a b
    obtain ⟨e1, e2, e3, rfl, p1, p2, p3⟩ := nth_rep (t := b) ht.2 (show nth r j = some d from h) h2
    refine ⟨c1 ++ e1, e2, e3, by simp, p1, ?_, p3⟩
    have := h1.1.size
    rw [ht.1] at this
    simp [offs, p2, this]

theorem subD_rep : ∀ {r : List Nat} {d d' : Dat} {cs : List Value}, subD d r = some d' → DatRep X S w d cs →
    ∃ c1 c2 c3, cs = c1 ++ (c2 ++ c3) ∧ DatRep X S w d' c2 ∧ offs d.t r = some (d'.t, c1.length)
  | [], d, d', cs, h, hd => by
    simp [subD] at h; subst h
    exact ⟨[], cs, [], by simp, hd, by simp [offs_nil]⟩
  | j :: r, d, d', cs, h, hd => by
    unfold subD at h
    split at h
    · rename_i d1 h1
      obtain ⟨o, c1, c2, c3, rfl, p1, p2, p3, p4, p5⟩ := reads_fieldD h1 hd.1
      obtain ⟨e1, e2, e3, rfl, q1, q2⟩ := subD_rep h ⟨p4, by simp [TagOk, p5]⟩
      refine ⟨c1 ++ e1, e2, e3 ++ c3, by simp, q1, ?_⟩
      have := offs_app p2 q2
      simpa [p1] using this
    · cases h
  where
  offs_app : ∀ {t u v : Ty} {j : Nat} {r : List Nat} {o d : Nat}, offs t [j] = some (u, o) → offs u r = some (v, d) → offs t (j :: r) = some (v, o + d)
    | .pair a b, u, v, 0, r, o, d, h, h2 => by
      simp only [offs, offs_nil] at h
      injection h with h; injection h with h3 h4; subst h3 h4
      simpa [offs] using h2
    | .pair a b, u, v, j + 1, r, o, d, h, h2 => by
      simp only [offs] at h ⊢
      split at h
      · rename_i u' o' h'
        injection h with h; injection h with h3 h4; subst h3 h4
        rw [offs_app h' h2]
        simp [Nat.add_assoc]
      · cases h
    | .int _, _, _, _, _, _, _, h, _ => by simp [offs] at h
    | .bool, _, _, _, _, _, _, h, _ => by simp [offs] at h
    | .str, _, _, _, _, _, _, h, _ => by simp [offs] at h
    | .err, _, _, _, _, _, _, h, _ => by simp [offs] at h
    | .ptr, _, _, _, _, _, _, h, _ => by simp [offs] at h
    | .unit, _, _, _, _, _, _, h, _ => by simp [offs] at h
    | .slice _ _, _, _, _, _, _, _, h, _ => by simp [offs] at h

theorem offs_cons {t u v : Ty} {j : Nat} {r : List Nat} {o d : Nat} (h : offs t [j] = some (u, o)) (h2 : offs u r = some (v, d)) : offs t (j :: r) = some (v, o + d) := subD_rep.offs_app h h2

theorem fields_chain : ∀ {fs : List Field} {u : Ty} {o : Nat}, FieldsOK C fs u o → u.isSt = true ∧ ((tysOf u).map Ty.size).sum = u.size ∧ ∀ l : List Dat, l.map (·.t) = tysOf u → ∃ x, pack u l = some x
  | [], .unit, _, _ => ⟨rfl, rfl, fun l hl => by
    cases l
    · exact ⟨(), rfl⟩
    · simp [tysOf] at hl⟩
  | f :: fs, .pair a b, o, h => by
    obtain ⟨_, _, _, _, h5⟩ := h
    obtain ⟨h1, h2, h3⟩ := fields_chain h5
    refine ⟨rfl, by simp [tysOf, Ty.size, h2], fun l hl => ?_⟩
    cases l with
    | nil => simp [tysOf] at hl
    | cons d r =>
      simp [tysOf] at hl
      obtain ⟨x, hx⟩ := h3 r hl.2
      have hc : castD d a = some (hl.1 ▸ d.x) := by unfold castD; rw [dif_pos hl.1]
      exact ⟨_, by simp [pack, hc, hx]; rfl⟩
  | [], .int _, _, h => h.elim
  | [], .bool, _, h => h.elim
  | [], .str, _, h => h.elim
  | [], .err, _, h => h.elim
  | [], .ptr, _, h => h.elim
  | [], .pair _ _, _, h => h.elim
  | [], .slice _ _, _, h => h.elim
  | _ :: _, .int _, _, h => h.elim
  | _ :: _, .bool, _, h => h.elim
  | _ :: _, .str, _, h => h.elim
  | _ :: _, .err, _, h => h.elim
  | _ :: _, .ptr, _, h => h.elim
  | _ :: _, .unit, _, h => h.elim
  | _ :: _, .slice _ _, _, h => h.elim

theorem pack_ok {t : TypeId} {u : Ty} (h : TyOK P C t u) (hs : u.isSt = true) {l : List Dat} (hl : l.map (·.t) = tysOf u) : ∃ x, pack u l = some x := by
  have hd := h.desc
  cases u <;> simp [Ty.isSt] at hs
  · obtain ⟨fs, _, h2⟩ := hd; exact (fields_chain h2).2.2 l hl
  · obtain ⟨fs, _, h2⟩ := hd; exact (fields_chain h2).2.2 l hl

theorem exec_load {o : Oper} {t : TypeId} {x : Operand} (ho : o.op = .load t x) {c c' : Value} (e : a.eval x = c) (h : (Instr.loadAt t c).run P w = .ok c' w) : (execOp a.eval o).run P w = .ok (.value c') w := by
  unfold execOp; rw [ho]; dsimp only; rw [e]; simp [h]

theorem cell_at {g : Nat} {cs : List Value} {T : TypeId} (h : w.heap[g]? = some (.cells cs.toArray T (0, 0))) (j : Nat) : w.cell? ⟨g, j, none⟩ = cs[j]? := by
  rw [cell_of_row w g j _ T (0, 0) h]; simp

theorem ArrRep.at_ {R : Nat → Nat → Prop} {t : Ty} : ∀ {xs : List t.D} {cs : List Value} {i : Nat} {x : t.D}, ArrRep R w t xs cs → xs[i]? = some x →
    ∃ c1 c2 c3, cs = c1 ++ (c2 ++ c3) ∧ c1.length = i * t.size ∧ Reads R w t x c2
  | [], _, _, _, _, h => by simp at h
  | y :: r, cs, 0, x, h, hx => by
    obtain ⟨c1, c2, rfl, h1, h2⟩ := h
    simp at hx; subst hx
    exact ⟨[], c1, c2, rfl, by simp, h1⟩
  | y :: r, cs, i + 1, x, h, hx => by
    obtain ⟨c1, c2, rfl, h1, h2⟩ := h
    obtain ⟨e1, e2, e3, rfl, p1, p2⟩ := ArrRep.at_ h2 (show r[i]? = some x by simpa using hx)
    exact ⟨c1 ++ e1, e2, e3, by simp, by simp [h1.size, p1, Nat.add_mul]; omega, p2⟩

theorem sh_box {b : Nat} {T : TypeId} (h : Sh (S.box b) = some (false, T, .unit, 0)) : (∃ fs, S.box b = .fld T fs) ∨ ∃ d, S.box b = .leaf T d := by
  cases hb : S.box b <;> rw [hb] at h <;> simp [Sh] at h
  · exact .inl ⟨_, by rw [h]⟩
  · exact .inr ⟨_, by rw [h]⟩

theorem op_load {Out : Type} (hC : CfgOK P C) {o : Oper} {t : TypeId} {x : Operand} {k : AV → AS → Option Out} {r : Out} {env : Env C} (ho : o.op = .load t x) (h : evalOp C env S o k = some r) (hs : Sim C E S X a w) :
    ∃ v S', k v S' = some r ∧ OpRes P C E o a w S' v := by
  have hr := opv_rep hs t x
  unfold evalOp at h; rw [ho] at h; dsimp only at h
  split at h
  · rename_i u y hv
    rw [hv] at hr
    cases ht : tyIs C t u <;> rw [ht] at h <;> simp only [cond_true, cond_false] at h
    · cases h
    · obtain ⟨g, of, cs, e, hrd, hc⟩ := hr
      obtain ⟨c, p1, p2⟩ := run_loadAt_reads (hC _ _ (tyIs_eq ht)) hrd (fun j v hj => (hc j v hj).1)
      exact ⟨_, S, h, OpRes.value (exec_load ho e p2) hs ⟨cs, ⟨hrd, trivial⟩, p1⟩⟩
  · rename_i b p u hv
    rw [hv] at hr
    cases ht : tyIs C t u <;> rw [ht] at h <;> simp only [cond_true, cond_false] at h
    · cases h
    · obtain ⟨T, t0, of, h1, h2, h3, h4, e⟩ := hr
      have hbx := hs.bx b h1
      split at h
      · rename_i v hrb
        rcases sh_box h2 with ⟨fs, hb⟩ | ⟨d, hb⟩
        · rw [hb] at hbx hrb
          obtain ⟨t0', cs, q1, q2, q3, q4, q5, q6⟩ := hbx
          rw [h3] at q1; injection q1 with q1; subst q1
          cases p with
          | nil =>
            simp [readBox] at hrb; subst hrb
            rw [offs_nil] at h4; injection h4 with h4; injection h4 with h5 h6; subst h5 h6
            obtain ⟨y, hy⟩ := pack_ok (hC _ _ h3) q2 q3
            obtain ⟨p1, _⟩ := pack_reads hy q4
            obtain ⟨c, p2, p3⟩ := run_loadAt_reads (hC _ _ (tyIs_eq ht)) p1 (fun j v hj => by rw [Nat.zero_add, cell_at q5]; exact hj)
            refine ⟨_, S, h, OpRes.value (exec_load ho e p3) hs ⟨cs, q4, ?_⟩⟩
            simpa [toVal, q2] using p2
          | cons j r =>
            simp only [readBox] at hrb
            split at hrb
            · rename_i d hd
              split at hrb
              · rename_i d' hd'
                injection hrb with hrb; subst hrb
                obtain ⟨c1, c2, c3, rfl, s1, s2, s3⟩ := nth_rep q3 hd q4
                obtain ⟨e1, e2, e3, rfl, s4, s5⟩ := subD_rep hd' s1
                have s6 := offs_cons s2 s5
                rw [h4] at s6; injection s6 with s6; injection s6 with s7 s8; subst s7 s8
                obtain ⟨c, p2, p3⟩ := run_loadAt_reads (hC _ _ (tyIs_eq ht)) s4.1 (fun j v hj => by
                  rw [cell_at q5]
                  have := getElem?_mid (c1 ++ e1) e2 (e3 ++ c3) j v hj
                  simpa using this)
                exact ⟨_, S, h, OpRes.value (exec_load ho e p3) hs ⟨e2, s4, p2⟩⟩
              · cases hrb
            · cases hrb
        · rw [hb] at hbx hrb
          obtain ⟨cs, q1, q2, q4, q5, q6⟩ := hbx
          rw [h3] at q1; injection q1 with q1
          cases p with
          | nil =>
            simp [readBox] at hrb; subst hrb
            rw [offs_nil] at h4; injection h4 with h4; injection h4 with h5 h6; subst h5 h6
            obtain ⟨c, p2, p3⟩ := run_loadAt_reads (x := d.x) (by rw [← q1]; exact hC _ _ (tyIs_eq ht)) q4.1 (fun j v hj => by rw [Nat.zero_add, cell_at q5]; exact hj)
            exact ⟨_, S, h, OpRes.value (exec_load ho e p3) hs ⟨cs, q4, p2⟩⟩
          | cons j r => simp [readBox] at hrb
      · cases h
  · rename_i b i p u hv
    rw [hv] at hr
    cases ht : tyIs C t u <;> rw [ht] at h <;> simp only [cond_true, cond_false] at h
    · cases h
    · obtain ⟨e', t0, n, of, h1, h2, h3, h4, e⟩ := hr
      have hbx := hs.bx b h1
      unfold readArr at h
      split at h
      · rename_i e1 t1 xs hb
        rw [hb] at hbx h2
        simp [Sh] at h2
        obtain ⟨rfl, rfl, rfl⟩ := h2
        split at h
        · rename_i y hy
          split at h
          · rename_i d hd
            obtain ⟨cs, q1, q2, q3, q4⟩ := hbx
            obtain ⟨c1, c2, c3, rfl, s1, s2⟩ := q2.at_ hy
            obtain ⟨f1, f2, f3, rfl, s4, s5⟩ := subD_rep (S := S) (X := X) hd ⟨s2, trivial⟩
            rw [h4] at s5; injection s5 with s6; injection s6 with s7 s8
            subst s8
            obtain ⟨c, p2, p3⟩ := run_loadAt_reads (x := d.x) (by rw [← s7]; exact hC _ _ (tyIs_eq ht)) s4.1 (fun j v hj => by
              rw [cell_at q3]
              have := getElem?_mid (c1 ++ f1) f2 (f3 ++ c3) j v hj
              simpa [s1] using this)
            exact ⟨_, S, h, OpRes.value (exec_load ho e p3) hs ⟨f2, s4, p2⟩⟩
          · cases h
        · cases h
      · cases h
  · cases h

theorem op_extract {Out : Type} {o : Oper} {x : Operand} {i : Nat} {k : AV → AS → Option Out} {r : Out} {env : Env C} (ho : o.op = .extract x i) (h : evalOp C env S o k = some r) (hs : Sim C E S X a w) :
    ∃ v S', k v S' = some r ∧ OpRes P C E o a w S' v := by
  have hr := opv_rep hs o.type x
  unfold evalOp at h; rw [ho] at h; dsimp only at h
  split at h
  · rename_i l hv
    rw [hv] at hr
    obtain ⟨vs, e, ht⟩ := hr
    split at h
    · rename_i d hd
      have key : ∀ {l : List Dat} {vs : List Value} {i : Nat} {d : Dat}, nth l i = some d → TupRep X.R w l vs → ∃ c, vs[i]? = some c ∧ RepV C X S w (.dat d) c := by
        intro l
        induction l with
        | nil => intro vs i d h _; simp [nth] at h
        | cons d0 r ih =>
          intro vs i d h ht
          obtain ⟨v, vs', rfl, ⟨cs, h1, h2⟩, h3, h4⟩ := ht
          cases i with
          | zero =>
            simp [nth] at h; subst h
            exact ⟨v, rfl, cs, ⟨h1, by simp [TagOk, h3]⟩, h2⟩
          | succ i =>
            obtain ⟨c, p, q⟩ := ih (show nth r i = some d from h) h4
            exact ⟨c, by simpa using p, q⟩
      obtain ⟨c, p, q⟩ := key hd ht
      refine ⟨_, S, h, OpRes.value (c := c) ?_ hs q⟩
      unfold execOp; rw [ho]; dsimp only; rw [e]
      simp [Instr.extract, p]
    · cases h
  · cases h

theorem exec_index {o : Oper} {t : TypeId} {x ix : Operand} (ho : o.op = .index t x ix) {s : List UInt8} {q : IntKind} {i : Int} {c : UInt8} (hT : P.underlying t = some .string) (e1 : a.eval x = .string ⟨s.toArray⟩) (e2 : a.eval ix = .int q i) (h0 : 0 ≤ i) (hc : s[i.toNat]? = some c) :
    (execOp a.eval o).run P w = .ok (.value (.int .u8 c.toNat)) w := by
  have hb : (⟨s.toArray⟩ : ByteArray)[i.toNat]? = some c := by
    have hl : i.toNat < s.length := by
      rcases Nat.lt_or_ge i.toNat s.length with h | h
      · exact h
      · rw [List.getElem?_eq_none h] at hc; cases hc
    have : s[i.toNat] = c := by
      rw [List.getElem?_eq_getElem hl] at hc; injection hc
    show (if h : i.toNat < (⟨s.toArray⟩ : ByteArray).size then some ((⟨s.toArray⟩ : ByteArray)[i.toNat]) else none) = some c
    rw [dif_pos (by simpa [ByteArray.size] using hl)]
    congr 1
  unfold execOp; rw [ho]; dsimp only; rw [e1, e2]
  simp only [Sem.run_bind, Instr.index, asIntOf, Sem.run_pure, Result.andThen_ok, run_underlying hT, if_pos h0, hb]

theorem datInt_some {v : AV} {i : Int} (h : datInt v = some i) : ∃ q tg, v = .dat ⟨.int q, i, tg⟩ := by
  unfold datInt at h
  split at h
  · injection h with h; subst h; exact ⟨_, _, rfl⟩
  · cases h

theorem idxC_some {α Out : Type} {xs : List α} {i : Int} {k : α → Option Out} {r : Out} (h : idxC xs i k = some r) : 0 ≤ i ∧ ∃ e, xs[i.toNat]? = some e ∧ k e = some r := by
  unfold idxC at h
  cases hd : decide (0 ≤ i) <;> rw [hd] at h <;> simp only [cond_true, cond_false] at h
  · cases h
  · refine ⟨of_decide_eq_true hd, ?_⟩
    split at h
    · rename_i e he; exact ⟨e, he, h⟩
    · cases h

theorem op_index {Out : Type} (hC : CfgOK P C) {o : Oper} {t : TypeId} {x ix : Operand} {k : AV → AS → Option Out} {r : Out} {env : Env C} (ho : o.op = .index t x ix) (h : evalOp C env S o k = some r) (hs : Sim C E S X a w) :
    ∃ v S', k v S' = some r ∧ OpRes P C E o a w S' v := by
  have hr := opv_rep hs t x
  have hi := opv_rep hs 0 ix
  unfold evalOp at h; rw [ho] at h; dsimp only at h
  split at h
  · rename_i s tg i h1 h2 h3
    rw [h2] at hr
    obtain ⟨q, tg', h3⟩ := datInt_some h3
    rw [h3] at hi
    obtain ⟨h0, c, hc, h⟩ := idxC_some h
    exact ⟨_, S, h, OpRes.value (exec_index ho (hC _ _ h1).desc (str_rep hr) (int_rep hi) h0 hc) hs (rep_int _ _)⟩
  · cases h

end
end Go.Proofs.YtmgeeanbecmkbaaGreatDoor.Den
