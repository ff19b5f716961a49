/- DenK: a function's body, from its arguments to its results. -/
import Derived.Test.YtmgeeanbecmkbaaGreatDoorDenJ
namespace Go.Proofs.YtmgeeanbecmkbaaGreatDoor.Den
open Go
set_option linter.unusedVariables false

section
variable {P : Program} {C : Cfg} {E : Entry C} {S S' : AS} {X X' : Ctx} {a : Act} {w w' : World}

/-! The end. -/

/-- Behind the body nobody writes the arrays that were made by their length. -/
def endR (S : AS) (X : Ctx) (g o : Nat) : Prop := X.R g o ∨ ∃ b e t xs, b < S.nb ∧ S.box b = .arr e t xs ∧ X.β b = g

theorem end_keeps (w : World) : Keeps X.R (endR S X) w w := ⟨fun g o r => .inl r, fun _ _ _ => rfl⟩

theorem load_loc (hC : CfgOK P C) (hs : Sim C E S X a w) {t : TypeId} {d b : Nat} {p : List Nat} {u : Ty} {v : AV} (hv : S.get d = .loc b p u) (ht : tyIs C t u = true) (hrb : readBox (S.box b) p = some v) :
    ∃ ad c, a.tmps.getD d undef = .pointer (some ad) ∧ (loadVar t ad).run P w = .ok c w ∧ RepV C X S w v c := by
  have hr := hs.tm d
  rw [hv] at hr
  obtain ⟨T, t0, of, h1, h2, h3, h4, e⟩ := hr
  have hbx := hs.bx b h1
  rcases sh_box h2 with ⟨fs, hb⟩ | ⟨d, hb⟩
  · rw [hb] at hbx hrb
    obtain ⟨t0', cs, q1, q2, q3, q4, q5, q6, q7⟩ := hbx
    rw [h3] at q1; injection q1 with q1; subst q1
    cases p with
    | nil =>
      simp [readBox] at hrb; subst hrb
      rw [offs_nil] at h4; injection h4 with h4; injection h4 with h5 h6; subst h5 h6
      obtain ⟨y, hy⟩ := pack_ok (hC _ _ h3) q2 q3
      obtain ⟨p1, _⟩ := pack_reads hy q4
      obtain ⟨c, p2, p3⟩ := run_loadVar_reads (hC _ _ (tyIs_eq ht)) p1 (fun j v hj => by rw [Nat.zero_add, cell_at q5]; exact hj)
      refine ⟨_, c, e, p3, ⟨cs, q4, ?_⟩⟩
      simpa [toVal, q2] using p2
    | cons j r =>
      simp only [readBox] at hrb
      split at hrb
      · rename_i d hd
        split at hrb
        · rename_i d' hd'
          injection hrb with hrb; subst hrb
          obtain ⟨c1, c2, c3, rfl, s1, s2, s3⟩ := nth_rep q3 hd q4
          obtain ⟨e1, e2, e3, rfl, s4, s5⟩ := subD_rep hd' s1
          have s6 := offs_cons s2 s5
          rw [h4] at s6; injection s6 with s6; injection s6 with s7 s8; subst s7 s8
          obtain ⟨c, p2, p3⟩ := run_loadVar_reads (hC _ _ (tyIs_eq ht)) s4.1 (fun j v hj => by
            rw [cell_at q5]
            have := getElem?_mid (c1 ++ e1) e2 (e3 ++ c3) j v hj
            simpa using this)
          exact ⟨_, c, e, p3, ⟨e2, s4, p2⟩⟩
        · cases hrb
      · cases hrb
  · rw [hb] at hbx hrb
    obtain ⟨cs, q1, q2, q4, q5, q6⟩ := hbx
    rw [h3] at q1; injection q1 with q1
    cases p with
    | nil =>
      simp [readBox] at hrb; subst hrb
      rw [offs_nil] at h4; injection h4 with h4; injection h4 with h5 h6; subst h5 h6
      obtain ⟨c, p2, p3⟩ := run_loadVar_reads (x := d.x) (by rw [← q1]; exact hC _ _ (tyIs_eq ht)) q4.1 (fun j v hj => by rw [Nat.zero_add, cell_at q5]; exact hj)
      exact ⟨_, c, e, p3, ⟨cs, q4, p2⟩⟩
    | cons j r => simp [readBox] at hrb

/-- A result variable's value. -/
def resVal (tmps : Array Value) : ResultVar → Sem Value
  | .tmp t => pure (tmps.getD t undef)
  | .cell a t => do loadVar t (← asAddr (tmps.getD a undef))

theorem toD_end {v : AV} {t : Ty} {x : t.D} {c : Value} (h : toD v t = some x) (hv : RepV C X S w v c) : ∃ cs, Reads (endR S X) w t x cs ∧ toVal t cs c := by
  obtain ⟨cs, h1, h2⟩ := toD_rep h hv
  exact ⟨cs, h1.keeps (end_keeps w), h2⟩

theorem resD_run (hC : CfgOK P C) (hs : Sim C E S X a w) {r : ResultVar} {t : Ty} {x : t.D} (h : resD C S r t = some x) :
    ∃ v, (resVal a.tmps r).run P w = .ok v w ∧ ∃ cs, Reads (endR S X) w t x cs ∧ toVal t cs v := by
  cases r with
  | tmp d =>
    refine ⟨a.tmps.getD d undef, rfl, ?_⟩
    unfold resD at h
    have hr := hs.tm d
    dsimp only at h
    split at h
    · rename_i b hb
      rw [hb] at hr
      split at h
      · rename_i e u xs hbx
        obtain ⟨e', t', n, r1, r2, r3⟩ := hr
        rw [hbx] at r2; simp [Sh] at r2
        obtain ⟨_, _, rfl⟩ := r2
        have hB := hs.bx b r1
        rw [hbx] at hB
        obtain ⟨cs, q1, q2, q3, q4⟩ := hB
        have ed := castD_mk h
        injection ed with e1 e2 _
        subst e1
        have e2 := eq_of_heq e2
        subst e2
        refine ⟨[a.tmps.getD d undef], ⟨some ⟨X.β b, 0, none⟩, xs.length, by rw [r3], Nat.le_refl _, fun i hi => ?_⟩, rfl⟩
        obtain ⟨c2, s1, s2⟩ := arr_reads (g := X.β b) hi q2
        refine ⟨X.β b, 0, c2, rfl, s1.keeps (end_keeps w), fun j v hj => ?_⟩
        rw [Nat.zero_add, cell_at q3]
        exact ⟨(s2 j v hj).1, .inr ⟨b, _, _, _, r1, hbx, rfl⟩⟩
      · cases h
    · exact toD_end h hr
  | cell ad ty =>
    unfold resD at h
    dsimp only at h
    split at h
    · rename_i b p u hb
      cases ht : tyIs C ty u <;> rw [ht] at h <;> simp only [cond_true, cond_false] at h
      · cases h
      · split at h
        · rename_i v hv
          obtain ⟨ad', c, l1, l2, l3⟩ := load_loc hC hs hb ht hv
          refine ⟨c, ?_, toD_end h l3⟩
          unfold resVal
          dsimp only
          rw [l1]
          simp [asAddr, l2]
        · cases h
    · cases h

theorem outD_run (hC : CfgOK P C) (hs : Sim C E S X a w) {ow : List Bool} {ios : List Ty} : ∀ {rv : List ResultVar} {rs : List Ty} {x : (pairs (rs ++ ios)).D}, outD C S ow ios rv rs = some x →
    ∃ vs, (rv.mapM (m := Sem) (resVal a.tmps)).run P w = .ok vs w ∧ TupRep (endR S X) w (resDats rs ios x) vs ∧ iosD S ow ios = some (restD rs ios x)
  | [], [], x, h => ⟨[], by simp, rfl, h⟩
  | r :: rv, t :: ts, x, h => by
    unfold outD at h
    split at h
    · rename_i p q hp hq
      injection h with h; subst h
      obtain ⟨v, p1, cs, p2, p3⟩ := resD_run hC hs hp
      obtain ⟨vs, q1, q2, q3⟩ := outD_run hC hs hq
      refine ⟨v :: vs, ?_, ⟨v, vs, rfl, ⟨cs, p2, p3⟩, rfl, q2⟩, q3⟩
      simp only [List.mapM_cons, Sem.run_bind, p1, Result.andThen_ok, q1, Sem.run_pure]
    · cases h
  | [], _ :: _, _, h => by simp [outD] at h
  | _ :: _, [], _, h => by simp [outD] at h

theorem results_run {fn : Func} {tmps : Array Value} {l : List Dat} {vs : List Value} {R : Nat → Nat → Prop} (h : (fn.results.toList.mapM (m := Sem) (resVal tmps)).run P w = .ok vs w) (ht : TupRep R w l vs) :
    ∃ v, (results fn tmps).run P w = .ok v w ∧ ResRep R w l v := by
  have hf : (results fn tmps) = (do
      let vs ← fn.results.mapM (resVal tmps)
      pure (if h : vs.size = 1 then vs[0] else .tuple vs)) := by
    unfold results
    congr 1
  have hrun : (results fn tmps).run P w = .ok (if h : vs.toArray.size = 1 then vs.toArray[0] else .tuple vs.toArray) w := by
    rw [hf, Array.mapM_eq_mapM_toList]
    simp [h]
  refine ⟨_, hrun, ?_⟩
  match l, vs, ht with
  | [], vs, ht =>
    have ht : vs = [] := ht
    subst ht
    exact ⟨[], by simp, rfl⟩
  | [d], vs, ht =>
    obtain ⟨v, vs', rfl, h1, h2, h3⟩ := ht
    have h3 : vs' = [] := h3
    subst h3
    exact ⟨by simpa using h1, h2⟩
  | d :: e :: r, vs, ht =>
    obtain ⟨v, vs', rfl, h1, h2, v2, vs2, rfl, h3⟩ := ht
    exact ⟨v :: v2 :: vs2, by simp, v, _, rfl, h1, h2, v2, vs2, rfl, h3⟩

/-! The beginning. -/

theorem init_pure : ∀ {ps : List Par} {as : List Arg} {vs : List Value} {i : Nat} {S S' : AS}, Sim C E S X a w → initC ps as i S = some S' → ArgsRep C X.R w ps as vs none → (∀ j v, vs[j]? = some v → a.tmps.getD (i + j) undef = v) →
    Sim C E S' X a w
  | [], [], vs, i, S, S', hs, h, _, _ => by
    unfold initC at h; injection h with h; subst h; exact hs
  | p :: ps, .val u x :: as, vs, i, S, S', hs, h, ha, hv => by
    cases vs with
    | nil => exact ha.elim
    | cons v vs =>
      obtain ⟨h1, ⟨cs, h2, h3⟩, h4⟩ := ha
      unfold initC at h
      dsimp only at h
      rw [h1] at h
      refine init_pure ?_ h h4 (fun j v' hj => by
        have := hv (j + 1) v' (by simpa using hj)
        rw [show i + (j + 1) = i + 1 + j by omega] at this; exact this)
      exact hs.same ⟨cs, ⟨h2, trivial⟩, by have := hv 0 v rfl; rw [Nat.add_zero] at this; rw [this]; exact h3⟩
  | p :: ps, .fn f :: as, vs, i, S, S', hs, h, ha, hv => by
    cases vs with
    | nil => exact ha.elim
    | cons v vs =>
      obtain ⟨h1, h2, h4⟩ := ha
      unfold initC at h
      dsimp only at h
      rw [h1] at h
      refine init_pure ?_ h h4 (fun j v' hj => by
        have := hv (j + 1) v' (by simpa using hj)
        rw [show i + (j + 1) = i + 1 + j by omega] at this; exact this)
      exact hs.same (by have := hv 0 v rfl; rw [Nat.add_zero] at this; rw [this]; exact h2)
  | p :: ps, .io u x :: as, vs, i, S, S', hs, h, ha, hv => by
    cases vs with
    | nil => exact ha.elim
    | cons v vs =>
      obtain ⟨_, _, ⟨g, hs', _, he, _⟩, _⟩ := ha
      cases he
  | [], _ :: _, vs, i, S, S', hs, h, _, _ => by unfold initC at h; cases h
  | _ :: _, [], vs, i, S, S', hs, h, _, _ => by unfold initC at h; cases h

theorem unpack_tys : ∀ {t : Ty} (x : t.D), (unpack t x).map (·.t) = tysOf t
  | .pair a b, x => by
    show a :: (unpack b x.2).map (·.t) = a :: tysOf b
    rw [unpack_tys]
  | .int _, _ => rfl
  | .bool, _ => rfl
  | .str, _ => rfl
  | .err, _ => rfl
  | .ptr, _ => rfl
  | .unit, _ => rfl
  | .slice _ _, _ => rfl

theorem init_io {g : Nat} {hs : Hds} (hnd : (g :: blocksOf hs).Nodup) (hW : ∀ k ∈ g :: blocksOf hs, E.W k) (hlt : ∀ g o, X.R g o → g < w.heap.size) : ∀ {ps : List Par} {as : List Arg} {vs : List Value} {i : Nat} {S S' : AS},
    (∀ q, ioPar ps = some q → E.io = some (g, q.T)) → Sim C { E with io := none } S X a w → S.nb = 0 → S.nid = 0 → initC ps as i S = some S' → ArgsRep C X.R w ps as vs (some (g, hs)) → (∀ j v, vs[j]? = some v → a.tmps.getD (i + j) undef = v) →
    ∃ X', Sim C E S' X' a w ∧ X'.R = X.R
  | [], [], vs, i, S, S', _, _, _, _, _, ha, _ => by
    cases vs with
    | nil => cases (show some (g, hs) = none from ha)
    | cons _ _ => exact ha.elim
  | p :: ps, .val u x :: as, vs, i, S, S', hq, hsim, hnb, hnid, h, ha, hv => by
    cases vs with
    | nil => exact ha.elim
    | cons v vs =>
      obtain ⟨h1, ⟨cs, h2, h3⟩, h4⟩ := ha
      unfold initC at h
      dsimp only at h
      rw [h1] at h
      refine init_io hnd hW hlt (fun q e => hq q (by unfold ioPar; rw [h1]; exact e)) ?_ ?_ ?_ h h4 (fun j v' hj => by
        have := hv (j + 1) v' (by simpa using hj)
        rw [show i + (j + 1) = i + 1 + j by omega] at this; exact this)
      · exact hsim.same ⟨cs, ⟨h2, trivial⟩, by have := hv 0 v rfl; rw [Nat.add_zero] at this; rw [this]; exact h3⟩
      · exact hnb
      · exact hnid
  | p :: ps, .fn f :: as, vs, i, S, S', hq, hsim, hnb, hnid, h, ha, hv => by
    cases vs with
    | nil => exact ha.elim
    | cons v vs =>
      obtain ⟨h1, h2, h4⟩ := ha
      unfold initC at h
      dsimp only at h
      rw [h1] at h
      refine init_io hnd hW hlt (fun q e => hq q (by unfold ioPar; rw [h1]; exact e)) ?_ ?_ ?_ h h4 (fun j v' hj => by
        have := hv (j + 1) v' (by simpa using hj)
        rw [show i + (j + 1) = i + 1 + j by omega] at this; exact this)
      · exact hsim.same (by have := hv 0 v rfl; rw [Nat.add_zero] at this; rw [this]; exact h2)
      · exact hnb
      · exact hnid
  | p :: ps, .io u x :: as, vs, i, S, S', hq, hsim, hnb, hnid, h, ha, hv => by
    cases vs with
    | nil => exact ha.elim
    | cons v vs =>
      obtain ⟨h1, h2, ⟨g', hs', h3, he, hio⟩, h4⟩ := ha
      injection he with he
      injection he with e1 e2
      subst e1; subst e2
      have hq' := hq p (by unfold ioPar; rw [h1]; rfl)
      unfold initC at h
      dsimp only at h
      cases hkl : p.kill
      rotate_left
      · rw [h1, hkl] at h; simp only [Bool.not_true, Bool.and_false, Bool.false_and, cond_false] at h; cases h
      rw [h1, hkl, hnb, decide_eq_true h2] at h
      simp only [Bool.not_false, Bool.and_true, Bool.true_and, Nat.beq_refl, cond_true] at h
      obtain ⟨cs, r1, r2, r3⟩ := hio.rep
      obtain ⟨c, hc⟩ : ∃ c, c = countSl p.ow (unpack u x) := ⟨_, rfl⟩
      rw [← hc] at h
      let X' : Ctx := { R := X.R, β := fun _ => g, hd := fun k => (hs.getD k (.slice none 0 0, 0, 0, 0)).1, inf := fun k => (hs.getD k (.slice none 0 0, 0, 0, 0)).2 }
      let S1 : AS := { S.newBox (.fld p.T (freshTags p.ow (unpack u x) 0)) with vers := freshVers 0 c, nid := c }
      have names : ∀ i q, hs[i]? = some q → X'.hd i = q.1 ∧ X'.inf i = q.2 ∧ i < hs.length := by
        intro i q hp
        have hi : i < hs.length := by
          rcases Nat.lt_or_ge i hs.length with h | h
          · exact h
          · rw [List.getElem?_eq_none h] at hp; cases hp
        refine ⟨?_, ?_, hi⟩
        · simp only [X', List.getD_eq_getElem?_getD, hp, Option.getD_some]
        · simp only [X', List.getD_eq_getElem?_getD, hp, Option.getD_some]
      have hcl : c = hs.length := by
        have := (fresh_rep (X' := X') (S' := { S1 with vers := [], nid := hs.length }) (R := X.R) (m := 0) rfl r2 (fun i q hp => by
          obtain ⟨n1, n2, n3⟩ := names i q hp
          rw [Nat.zero_add]
          exact ⟨n1, n2, n3, rfl⟩)).2.2
        rw [hc, this]
      have ver' : ∀ i, i < c → S1.ver i = 0 := by
        intro i hi
        show (look (freshVers 0 c) i).getD 0 = 0
        rw [look_fresh, if_pos ⟨Nat.zero_le _, by omega⟩]; rfl
      obtain ⟨f1, f2, _⟩ := fresh_rep (X' := X') (S' := S1) (R := X.R) (m := 0) rfl r2 (fun i q hp => by
        obtain ⟨n1, n2, n3⟩ := names i q hp
        rw [Nat.zero_add]
        exact ⟨n1, n2, by show i < c; omega, ver' i (by omega)⟩)
      have L : Le S S1 X X' w w := ⟨Keeps.refl _ _, by rw [hnb]; exact Nat.zero_le _, fun b hb => by omega, by rw [hnid]; exact Nat.zero_le _, fun k hk => by omega⟩
      have hbox : S1.box 0 = .fld p.T (freshTags p.ow (unpack u x) 0) := by
        show (look ((S.nb, _) :: S.boxes) 0).getD .dead = _
        rw [hnb]; rfl
      have hnb1 : S1.nb = 1 := by show S.nb + 1 = 1; rw [hnb]
      have get : ∀ k, k < c → ∃ q, hs[k]? = some q ∧ X'.hd k = q.1 ∧ X'.inf k = q.2 := by
        intro k hk
        rw [hcl] at hk
        obtain ⟨a1, a2, _⟩ := names k _ (List.getElem?_eq_getElem hk)
        exact ⟨_, List.getElem?_eq_getElem hk, a1, a2⟩
      have hS1 : Sim C E S1 X' a w := by
        refine { dfr := hsim.dfr, sz := hsim.sz, tm := fun d => (hsim.tm d).le L, bx := fun b hb => ?_, idk := fun k hk => ?_, bd := fun b b' hb hb' _ _ _ => by omega, ib := fun k b hk hb _ e => ?_, ii := fun k k' gg hk hk' e1 e2 => ?_, wb := fun b hb _ => .inl (hW g (List.mem_cons_self ..)), wi := fun k gg hk e => ?_, fr := ?_, ent := fun g0 T e => ?_, ck := hsim.ck }
        · have : b = 0 := by omega
          subst this
          rw [hbox]
          refine ⟨u, cs, hio.ty, hio.st, ?_, f1, r1, hio.nr, r3⟩
          rw [f2, unpack_tys]
        · obtain ⟨q, q1, q2, q3⟩ := get k hk
          obtain ⟨cells, z1, z2⟩ := hio.hd q (List.mem_of_getElem? q1)
          exact ⟨cells, by rw [q2, q3]; exact z1, by rw [q2, q3]; exact z2⟩
        · obtain ⟨q, q1, q2, q3⟩ := get k hk
          rw [q2] at e
          exact (List.nodup_cons.1 hnd).1 (blocks_mem q1 e)
        · obtain ⟨q, q1, q2, q3⟩ := get k hk
          obtain ⟨q', q1', q2', q3'⟩ := get k' hk'
          rw [q2] at e1; rw [q2'] at e2
          exact blocks_inj (List.nodup_cons.1 hnd).2 q1 q1' e1 e2
        · obtain ⟨q, q1, q2, q3⟩ := get k hk
          rw [q2] at e
          exact .inl (hW gg (List.mem_cons_of_mem _ (blocks_mem q1 e)))
        · obtain ⟨z1, z2, z3, z4, z5, z6, z7, z8⟩ := hsim.fr
          exact ⟨z1, z2, z3, z4, z5, z6, z7, z8⟩
        · rw [hq'] at e
          injection e with e; injection e with e1 e2
          subst e1; subst e2
          exact ⟨by omega, rfl, by rw [hbox]; rfl⟩
      refine ⟨X', ?_, rfl⟩
      refine init_pure (S := S1.put i (.loc 0 [] u)) ?_ h h4 (fun j v' hj => by
        have := hv (j + 1) v' (by simpa using hj)
        rw [show i + (j + 1) = i + 1 + j by omega] at this; exact this)
      refine hS1.same ?_
      have := hv 0 v rfl
      rw [Nat.add_zero] at this
      rw [this, h3]
      exact ⟨p.T, u, 0, by omega, by rw [hbox]; rfl, hio.ty, offs_nil u, rfl⟩
  | [], _ :: _, vs, i, S, S', _, _, _, _, h, _, _ => by unfold initC at h; cases h
  | _ :: _, [], vs, i, S, S', _, _, _, _, h, _, _ => by unfold initC at h; cases h

end

end Go.Proofs.YtmgeeanbecmkbaaGreatDoor.Den
