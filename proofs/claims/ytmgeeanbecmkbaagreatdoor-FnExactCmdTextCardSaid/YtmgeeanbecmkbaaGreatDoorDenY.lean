/- DenY: stores; slices that are made, and appended to. -/
import Derived.Test.YtmgeeanbecmkbaaGreatDoorDenX
import Derived.Laws.AppendOwnNone
namespace Go.Proofs.YtmgeeanbecmkbaaGreatDoor.Den
open Go
set_option linter.unusedVariables false

section
variable {P : Program} {C : Cfg} {E : Entry C} {S S' : AS} {X X' : Ctx} {a : Act} {w w' : World}

theorem exec_store {o : Oper} {t : TypeId} {ad x : Operand} (ho : o.op = .store t ad x) {g of : Nat} (e : a.eval ad = .pointer (some ⟨g, of, none⟩)) (h : (storeVar t ⟨g, of, none⟩ (a.eval x)).run P w = .ok () w') : (execOp a.eval o).run P w = .ok .skip w' := by
  unfold execOp; rw [ho]; dsimp only; rw [e]
  simp only [Sem.run_bind, Instr.storeAt, Instr.sureAddr, Sem.run_pure, Result.andThen_ok, h]

theorem take_mid (c1 c2 c3 cs : List Value) (n : Nat) (h : c2.length = n) : ((c1 ++ (c2 ++ c3)).toArray.toList.take c1.length ++ cs ++ (c1 ++ (c2 ++ c3)).toArray.toList.drop (c1.length + n)) = c1 ++ (cs ++ c3) := by
  simp only [List.take_left, List.append_assoc]
  congr 1
  congr 1
  rw [← h, ← List.append_assoc, ← List.length_append, List.drop_left]

/-- Memory behind a store has the old names; the block alone has turned. -/
theorem le_setRow (h : Sim C E S X a w) {b : Nat} {B : Box} {cs : Array Value} (hsh : Sh B = Sh (S.box b)) (hRb : ∀ o, ¬ X.R (X.β b) o) : Le S (S.setBox b B) X X w (w.setRow (X.β b) cs) := by
  refine ⟨keeps_block (fun _ _ r => r) (fun g o r => setRow_other w _ g cs (fun e => hRb o (e ▸ r))), Nat.le_refl _, fun b' hb' => ⟨?_, rfl⟩, Nat.le_refl _, fun _ _ => ⟨Nat.le_refl _, fun _ => ⟨rfl, rfl⟩⟩⟩
  rw [box_setBox]
  split
  · rename_i e; subst e; exact hsh
  · rfl

theorem keepArr {R : Nat → Nat → Prop} : ∀ {t : Ty} {xs : List t.D} {cs : List Value} {R' : Nat → Nat → Prop} {w' : World}, Keeps R R' w w' → ArrRep R w t xs cs → ArrRep R' w' t xs cs
  | t, [], _, _, _, _, h => h
  | t, _ :: _, _, _, _, K, h => by
    obtain ⟨c1, c2, rfl, h1, h2⟩ := h
    exact ⟨c1, c2, rfl, h1.keeps K, keepArr K h2⟩

theorem arr_set {R : Nat → Nat → Prop} : ∀ {t : Ty} {xs : List t.D} {cs : List Value} {i : Nat} {x : t.D}, ArrRep R w t xs cs → xs[i]? = some x →
    ∃ c1 c2 c3, cs = c1 ++ (c2 ++ c3) ∧ c1.length = i * t.size ∧ Reads R w t x c2 ∧
      ∀ (R' : Nat → Nat → Prop) (w' : World) (y : t.D) (c : List Value), Keeps R R' w w' → Reads R' w' t y c → ArrRep R' w' t (xs.set i y) (c1 ++ (c ++ c3))
  | t, [], _, _, _, _, h => by simp at h
  | t, y :: r, cs, 0, x, h, hx => by
    obtain ⟨c1, c2, rfl, h1, h2⟩ := h
    simp at hx; subst hx
    exact ⟨[], c1, c2, rfl, by simp, h1, fun R' w' z c K hc => ⟨c, c2, rfl, hc, keepArr K h2⟩⟩
  | t, y :: r, cs, i + 1, x, h, hx => by
    obtain ⟨c1, c2, rfl, h1, h2⟩ := h
    obtain ⟨e1, e2, e3, rfl, p1, p2, p3⟩ := arr_set h2 (show r[i]? = some x by simpa using hx)
    exact ⟨c1 ++ e1, e2, e3, by simp, by simp [h1.size, p1, Nat.add_mul]; omega, p2, fun R' w' z c K hc => ⟨c1, e1 ++ (c ++ e3), by simp, h1.keeps K, p3 R' w' z c K hc⟩⟩

theorem setSub_sub : ∀ {r : List Nat} {d e d2 : Dat}, setSub d r e = some d2 → ∃ d', subD d r = some d'
  | [], d, e, d2, _ => ⟨d, rfl⟩
  | j :: r, d, e, d2, h => by
    simp only [setSub] at h
    split at h
    · rename_i z hz
      split at h
      · rename_i z2 hz2
        obtain ⟨d', hd'⟩ := setSub_sub hz2
        exact ⟨d', by simp [subD, hz, hd']⟩
      · cases h
    · cases h

theorem self_set {t : Ty} {fs : List Dat} {j : Nat} {z : Ty} {c1 c2 c3 ce : List Value} {g : Nat} (hok : okW fs j = true) (h : fs.map (·.t) = tysOf t) (ho : offs t [j] = some (z, c1.length)) (hq : SelfC g t (c1 ++ (c2 ++ c3))) : SelfC g t (c1 ++ (ce ++ c3)) := by
  cases t with
  | pair a b =>
    cases a with
    | ptr =>
      cases fs with
      | nil => simp [tysOf] at h
      | cons d l =>
        obtain ⟨dt, dx, tg⟩ := d
        simp only [List.map_cons, tysOf, List.cons.injEq] at h
        obtain ⟨e, _⟩ := h
        subst e
        cases j with
        | zero => simp [okW] at hok
        | succ j =>
          simp only [offs] at ho
          split at ho
          · rename_i u o hu
            injection ho with ho
            injection ho with _ ho
            cases c1 with
            | nil => simp [Ty.size] at ho
            | cons c r => exact hq
          · cases ho
    | _ => trivial
  | _ => trivial

theorem op_store {Out : Type} (hC : CfgOK P C) {o : Oper} {t : TypeId} {ad x : Operand} {k : AV → AS → Option Out} {r : Out} {env : Env C} (ho : o.op = .store t ad x) (h : evalOp C env S o k = some r) (hs : Sim C E S X a w) :
    ∃ v S', k v S' = some r ∧ OpRes P C E o a w S' v := by
  have ha := opv_rep hs t ad
  have hx := opv_rep hs t x
  unfold evalOp at h; rw [ho] at h; dsimp only at h
  split at h
  · rename_i b p u hv
    rw [hv] at ha
    cases ht : tyIs C t u <;> rw [ht] at h <;> simp only [cond_true, cond_false] at h
    · cases h
    · obtain ⟨T, t0, of, h1, h2, h3, h4, e⟩ := ha
      have hT := hC _ _ (tyIs_eq ht)
      have hbx := hs.bx b h1
      split at h
      · rename_i B hB
        rcases sh_box h2 with ⟨fs, hb⟩ | ⟨d, hb⟩
        · rw [hb] at hbx hB
          obtain ⟨t0', cs, q1, q2, q3, q4, q5, q6, q7⟩ := hbx
          rw [h3] at q1; injection q1 with q1; subst q1
          have hdead : S.box b ≠ .dead := by rw [hb]; exact fun e => (nomatch e)
          cases p with
          | nil =>
            simp only [writeBox, h3] at hB
            split at hB
            · rename_i gs hgs
              cases hok : okHead gs <;> rw [hok] at hB <;> simp only [cond_true, cond_false] at hB
              · cases hB
              injection hB with hB; subst hB
              rw [offs_nil] at h4; injection h4 with h4; injection h4 with h5 h6; subst h5 h6
              obtain ⟨cs2, f1, f2, f3⟩ := toFs_rep (hC _ _ h3) q2 hgs hx
              obtain ⟨y, hy⟩ := pack_ok (hC _ _ h3) q2 f2
              have hr := (pack_reads hy f1).1
              obtain ⟨y0, hy0⟩ := pack_ok (hC _ _ h3) q2 q3
              have hr0 := (pack_reads hy0 q4).1
              have hst := run_storeVar_reads (P := P) hT hr (c := a.eval x) (by simpa [toVal, q2] using f3) q5 (o := 0) (by simp [hr0.size])
              have e2 := take_mid [] cs [] cs2 _ hr0.size
              simp only [List.nil_append, List.append_nil, List.length_nil] at e2
              rw [e2] at hst
              obtain ⟨s1, s2⟩ := hs.setBox (B := .fld T gs) (cs := cs2.toArray) h1 hdead (by rw [hb]; rfl)
                ⟨t0, cs2, h3, q2, f2, f1.le (le_setRow hs (by rw [hb]; rfl) q6), setRow_heap w _ _ _ T _ q5, q6, self_ok f1 f2 hok _⟩ q6
              exact ⟨_, _, h, OpRes.skip (exec_store ho e hst) s1⟩
            · cases hB
          | cons j rr =>
            simp only [writeBox] at hB
            cases hok : okW fs j <;> rw [hok] at hB <;> simp only [cond_true, cond_false] at hB
            · cases hB
            split at hB
            · rename_i d hd
              split at hB
              · rename_i d' hd'
                split at hB
                · rename_i e' he'
                  split at hB
                  · rename_i d2 hd2
                    injection hB with hB; subst hB
                    obtain ⟨c1, c2, c3, rfl, s1, s2, s3, s4⟩ := nth_set q3 hd q4
                    obtain ⟨f1, f2, f3, rfl, g1, g2, g3, g4, g5⟩ := setSub_rep hd2 hd' s1
                    have s6 := offs_cons s2 g1
                    rw [h4] at s6; injection s6 with s6; injection s6 with s7 s8
                    obtain ⟨et, ce, r1, r2⟩ := asDat_rep he' hx
                    have hTe : TyOK P C t e'.t := by rw [et, ← s7]; exact hT
                    have hl2 : f2.length = e'.t.size := by rw [g2, et]
                    have hst := run_storeVar_reads (P := P) hTe r1.1 r2 q5 (o := of) (by
                      rw [s8]; simp only [List.size_toArray, List.length_append, hl2]; omega)
                    have e3 : (c1 ++ (f1 ++ (f2 ++ f3) ++ c3)) = (c1 ++ f1) ++ (f2 ++ (f3 ++ c3)) := by simp
                    have e2 := take_mid (c1 ++ f1) f2 (f3 ++ c3) ce e'.t.size hl2
                    rw [e3] at hst
                    rw [List.length_append, ← s8] at e2
                    rw [e2] at hst
                    have q5' := q5
                    have L := le_setRow hs (B := .fld T (setNth fs j d2)) (cs := ((c1 ++ f1) ++ (ce ++ (f3 ++ c3))).toArray) (by rw [hb]; rfl) q6
                    obtain ⟨m1, m2⟩ := s4 X (S.setBox b (.fld T (setNth fs j d2))) _ d2 (f1 ++ (ce ++ f3)) L g4 (g5 X _ _ ce L (r1.le L))
                    obtain ⟨n1, n2⟩ := hs.setBox (B := .fld T (setNth fs j d2)) (cs := ((c1 ++ f1) ++ (ce ++ (f3 ++ c3))).toArray) h1 hdead (by rw [hb]; rfl)
                      ⟨t0, _, h3, q2, m2, m1, by simpa using setRow_heap w _ _ ((c1 ++ f1) ++ (ce ++ (f3 ++ c3))).toArray T _ q5, q6, self_set hok q3 s2 q7⟩ q6
                    exact ⟨_, _, h, OpRes.skip (exec_store ho e hst) n1⟩
                  · cases hB
                · cases hB
              · cases hB
            · cases hB
        · rw [hb] at hbx hB
          obtain ⟨cs, q1, q2, q4, q5, q6⟩ := hbx
          rw [h3] at q1; injection q1 with q1
          have hdead : S.box b ≠ .dead := by rw [hb]; exact fun e => (nomatch e)
          cases p with
          | nil =>
            simp only [writeBox] at hB
            split at hB
            · rename_i e' he'
              injection hB with hB; subst hB
              rw [offs_nil] at h4; injection h4 with h4; injection h4 with h5 h6; subst h5 h6
              obtain ⟨et, ce, r1, r2⟩ := asDat_rep he' hx
              have hTe : TyOK P C t e'.t := by rw [et, ← q1]; exact hT
              have hst := run_storeVar_reads (P := P) hTe r1.1 r2 q5 (o := 0) (by simp [q4.1.size, et])
              have e2 := take_mid [] cs [] ce e'.t.size (by rw [q4.1.size, et])
              simp only [List.nil_append, List.append_nil, List.length_nil] at e2
              rw [e2] at hst
              have L := le_setRow hs (B := .leaf T e') (cs := ce.toArray) (by rw [hb]; rfl) q6
              obtain ⟨n1, n2⟩ := hs.setBox (B := .leaf T e') (cs := ce.toArray) h1 hdead (by rw [hb]; rfl)
                ⟨ce, by rw [et, ← q1]; exact h3, by rw [et]; exact q2, r1.le L, setRow_heap w _ _ _ T _ q5, q6⟩ q6
              exact ⟨_, _, h, OpRes.skip (exec_store ho e hst) n1⟩
            · cases hB
          | cons j rr => simp [writeBox] at hB
      · cases h
  · rename_i b i p u hv
    rw [hv] at ha
    cases ht : tyIs C t u <;> rw [ht] at h <;> simp only [cond_true, cond_false] at h
    · cases h
    · obtain ⟨e0, t0, n, of, h1, h2, h3, h4, e⟩ := ha
      have hT := hC _ _ (tyIs_eq ht)
      have hbx := hs.bx b h1
      unfold writeArr at h
      split at h
      · rename_i e1 t1 xs hb
        rw [hb] at hbx h2
        simp [Sh] at h2
        obtain ⟨rfl, rfl, rfl⟩ := h2
        obtain ⟨cs, q1, q2, q3, q4⟩ := hbx
        have hdead : S.box b ≠ .dead := by rw [hb]; exact fun e => (nomatch e)
        have hxi : xs[i]? = some xs[i] := List.getElem?_eq_getElem h3
        obtain ⟨c1, c2, c3, rfl, s1, s2, s3⟩ := arr_set q2 hxi
        split at h
        · rw [offs_nil] at h4; injection h4 with h4; injection h4 with h5 h6; subst h5 h6
          split at h
          · rename_i y hy
            obtain ⟨ce, r1, r2⟩ := toD_rep hy hx
            have hst := run_storeVar_reads (P := P) hT r1 r2 q3 (o := i * t1.size + 0) (by
              simp only [List.size_toArray, List.length_append, s1, s2.size]; omega)
            have e2 := take_mid c1 c2 c3 ce t1.size s2.size
            rw [Nat.add_zero, ← s1] at hst
            rw [e2] at hst
            rw [Nat.add_zero, ← s1] at e
            have L := le_setRow hs (B := .arr e1 t1 (xs.set i y)) (cs := (c1 ++ (ce ++ c3)).toArray) (by rw [hb]; simp [Sh]) q4
            obtain ⟨n1, n2⟩ := hs.setBox (B := .arr e1 t1 (xs.set i y)) (cs := (c1 ++ (ce ++ c3)).toArray) h1 hdead (by rw [hb]; simp [Sh])
              ⟨_, q1, s3 X.R _ y ce L.kp (r1.keeps L.kp), setRow_heap w _ _ _ e1 _ q3, q4⟩ q4
            exact ⟨_, _, h, OpRes.skip (exec_store ho e hst) n1⟩
          · cases h
        · split at h
          · rename_i z d hz hd
            split at h
            · rename_i d2 hd2
              split at h
              · rename_i y hy
                rw [hxi] at hz; injection hz with hz; subst hz
                have hxd : RepV C X S w (.dat d) (a.eval x) := by rw [← hd]; exact hx
                obtain ⟨ce, r1, r2⟩ := hxd
                obtain ⟨d', hd'⟩ : ∃ d', subD ⟨t1, xs[i], .ro⟩ p = some d' := setSub_sub hd2
                have hD : DatRep X S w ⟨t1, xs[i], .ro⟩ c2 := ⟨s2, trivial⟩
                obtain ⟨f1, f2, f3, rfl, g1, g2, g3, g4, g5⟩ := setSub_rep hd2 hd' hD
                rw [h4] at g1; injection g1 with g1; injection g1 with s7 s8
                have hTe : TyOK P C t d.t := by rw [g3, ← s7]; exact hT
                have hl2 : f2.length = d.t.size := by rw [g2, g3]
                have hst := run_storeVar_reads (P := P) hTe r1.1 r2 q3 (o := i * t1.size + of) (by
                  rw [s8]; simp only [List.size_toArray, List.length_append, hl2, s1]; omega)
                have e3 : (c1 ++ (f1 ++ (f2 ++ f3) ++ c3)) = (c1 ++ f1) ++ (f2 ++ (f3 ++ c3)) := by simp
                have e2 := take_mid (c1 ++ f1) f2 (f3 ++ c3) ce d.t.size hl2
                rw [e3] at hst
                rw [List.length_append, s1, ← s8] at e2
                rw [e2] at hst
                have L := le_setRow hs (B := .arr e1 t1 (xs.set i y)) (cs := ((c1 ++ f1) ++ (ce ++ (f3 ++ c3))).toArray) (by rw [hb]; simp [Sh]) q4
                have hy2 := (g5 X _ _ ce L (r1.le L)).1
                have hy3 : Reads X.R _ t1 y (f1 ++ (ce ++ f3)) := (castD_reads hy).1 hy2
                have m1 := s3 X.R _ y (f1 ++ (ce ++ f3)) L.kp hy3
                obtain ⟨n1, n2⟩ := hs.setBox (B := .arr e1 t1 (xs.set i y)) (cs := ((c1 ++ f1) ++ (ce ++ (f3 ++ c3))).toArray) h1 hdead (by rw [hb]; simp [Sh])
                  ⟨_, q1, m1, by simpa using setRow_heap w _ _ ((c1 ++ f1) ++ (ce ++ (f3 ++ c3))).toArray e1 _ q3, q4⟩ q4
                exact ⟨_, _, h, OpRes.skip (exec_store ho e hst) n1⟩
              · cases h
            · cases h
          · cases h
      · cases h
  · cases h

end
end Go.Proofs.YtmgeeanbecmkbaaGreatDoor.Den
