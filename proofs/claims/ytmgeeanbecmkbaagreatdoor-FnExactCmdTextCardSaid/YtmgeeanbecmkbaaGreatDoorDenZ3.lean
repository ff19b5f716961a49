/- DenZ3: append, make, len, max, min as operations. -/
import Derived.Test.YtmgeeanbecmkbaaGreatDoorDenZ2
namespace Go.Proofs.YtmgeeanbecmkbaaGreatDoor.Den
open Go
set_option linter.unusedVariables false

section
variable {P : Program} {C : Cfg} {E : Entry C} {S S' : AS} {X X' : Ctx} {a : Act} {w w' : World}

theorem exec_builtin {o : Oper} {b : Builtin} {args : Array Operand} {tys : Array TypeId} (ho : o.op = .call { callee := .builtin b, args := args, argTypes := tys }) {nx : Next}
    (h : ∀ consts : Array Bool, (builtin b tys o.type consts (args.map a.eval)).run P w = .ok nx w') : (execOp a.eval o).run P w = .ok nx w' := by
  unfold execOp; rw [ho]; dsimp only
  simp only [Sem.run_bind, resolve, Sem.run_pure, Result.andThen_ok, invoke]
  exact h _

theorem tip_own {q v : Nat} (h : tip S (.own q v) = true) : q < S.nid ∧ S.ver q = v := by
  simp only [tip, Bool.and_eq_true] at h
  refine ⟨by have h1 := h.1; simp [Nat.blt] at h1; omega, Nat.eq_of_beq_eq_true h.2⟩

theorem src_cells {e : TypeId} {u : Ty} {ys : List u.D} {c : Value} (h : ∃ cs, Reads X.R w (.slice e u) ys cs ∧ toVal (.slice e u) cs c) :
    ∃ A cp news, c = .slice A ys.length cp ∧ ArrRep X.R w u ys news ∧ (∀ g o, A = some ⟨g, o, none⟩ → ∀ j y, news[j]? = some y → w.cell? ⟨g, o + j, none⟩ = some y) ∧ (0 < ys.length → ∃ g o, A = some ⟨g, o, none⟩) := by
  obtain ⟨cs, ⟨A, cp, rfl, hl, hi⟩, h2⟩ := h
  have h2 : [Value.slice A ys.length cp] = [c] := h2
  obtain rfl := ((List.cons.injEq _ _ _ _).mp h2).1
  cases hy : ys with
  | nil =>
    subst hy
    exact ⟨A, cp, [], rfl, rfl, fun g o _ j y h => by simp at h, fun h => absurd h (by simp)⟩
  | cons y r =>
    obtain ⟨g, o, _, hA, _⟩ := hi 0 (by rw [hy]; simp)
    obtain ⟨news, q1, q2⟩ := arr_cells (R := X.R) (w := w) (g := g) ys o (fun i hh => by
      obtain ⟨g', o', c2, p1, p2, p3⟩ := hi i hh
      rw [hA] at p1; injection p1 with p1; injection p1 with p4 p5; subst p4 p5
      exact ⟨c2, p2, fun j v hj => (p3 j v hj).1⟩)
    rw [← hy]
    exact ⟨A, cp, news, rfl, q1, fun g' o' e => by rw [hA] at e; injection e with e; injection e with p4 p5; subst p4 p5; exact q2, fun _ => ⟨g, o, hA⟩⟩

theorem op_append {Out : Type} (hC : CfgOK P C) {o : Oper} {t : TypeId} {x y : Operand} {k : AV → AS → Option Out} {r : Out} (ho : o.op = .call { callee := .builtin .append, args := #[x, y], argTypes := #[t, t] }) (h : appendC C S t (opv C S t x) (opv C S t y) k = some r) (hs : Sim C E S X a w) :
    ∃ v S', k v S' = some r ∧ OpRes P C E o a w S' v := by
  have hx := opv_rep hs t x
  have hy := opv_rep hs t y
  have hex : ∀ {c : Value} {w' : World}, (Builtin.append_ #[t, t] o.type #[a.eval x, a.eval y]).run P w = .ok c w' → (execOp a.eval o).run P w = .ok (.value c) w' := by
    intro c w' h
    refine exec_builtin (b := .append) ho fun consts => ?_
    simp only [builtin, Sem.run_bind]
    have e : (#[x, y].map a.eval) = #[a.eval x, a.eval y] := by simp
    rw [e, h]
    rfl
  unfold appendC at h
  split at h
  · rename_i e u xs tg e' u' h1 h2
    rw [h1] at hx
    cases hd : (decide (e = e') && decide (u = u')) <;> rw [hd] at h <;> simp only [cond_true, cond_false] at h
    · cases h
    · simp at hd
      obtain ⟨rfl, rfl⟩ := hd
      split at h
      · rename_i ys hys
        cases hc : decide (xs.length + List.length ys ≤ cap) <;> rw [hc] at h <;> simp only [cond_true, cond_false] at h
        · cases h
        · have hc := of_decide_eq_true hc
          obtain ⟨A, cp, news, e2, q1, q2, q3⟩ := src_cells (toD_rep hys hy)
          obtain ⟨css, ⟨r1, r2⟩, r3⟩ := hx
          have r3 : css = [a.eval x] := r3
          -- the row as it is, the number of the array
          have fin : ∀ (q ver nid' : Nat) (cs : List Value), w.ownsRow 0 e u.size (a.eval x) xs.length cs → ((q < S.nid ∧ nid' = S.nid ∧ S.ver q < ver) ∨ (q = S.nid ∧ nid' = S.nid + 1)) →
              (∀ g, (a.eval x).ownBlock = some g → q < S.nid ∧ (X.hd q).ownBlock = some g ∧ (X.inf q).2.2 * (X.inf q).2.1 = xs.length * u.size) → (q < S.nid → X.hd q = a.eval x ∧ (X.inf q).2.2 * (X.inf q).2.1 = xs.length * u.size) →
              k (.dat ⟨.slice e u, xs ++ ys, .own q ver⟩) { S with vers := (q, ver) :: S.vers, nid := nid' } = some r →
              ∃ v S', k v S' = some r ∧ OpRes P C E o a w S' v := by
            intro q ver nid' cs hown hq hblk hhd hk
            obtain ⟨v', w', p1, p2, p3⟩ := run_append_tip (P := P) (ty := o.type) hC h2 hown e2 q1.size q2 q3 (fun ad hA hm => by obtain ⟨g, o, e3⟩ := q3 hm; rw [hA] at e3; injection e3 with e3; rw [e3]) q1.one hc
            have hmono : xs.length * u.size ≤ (xs.length + List.length ys) * u.size := Nat.mul_le_mul_right _ (by omega)
            have hzl : (xs ++ ys).length = xs.length + List.length ys := by simp
            have harr : ArrRep X.R w u xs cs := own_arr (by rw [r3] at r1; exact r1) hown
            have main : ∀ row : Option Nat, w.grownBy w' row → (∀ g, row = some g → (a.eval x).ownBlock = some g ∧ v'.ownBlock = some g) → (v'.ownBlock = none ∨ v'.ownBlock = some w.heap.size ∨ v'.ownBlock = (a.eval x).ownBlock) →
                ∃ v S', k v S' = some r ∧ OpRes P C E o a w S' v := by
              intro row hg hrow hb
              obtain ⟨s1, L⟩ := hs.setId (q := q) (ver := ver) (nid' := nid') (v' := v') (e := e) (sz := u.size) (n := xs.length + List.length ys) (cs := cs ++ news) (row := row) hq hg (fun g e3 => by
                  obtain ⟨z1, z2⟩ := hrow g e3
                  obtain ⟨z3, z4, z5⟩ := hblk g z1
                  exact ⟨z3, z4, z2, by rw [z5]; exact hmono⟩) (by
                  rcases hb with hb | hb | hb
                  · exact .inl hb
                  · exact .inr (.inl hb)
                  · cases hob : (a.eval x).ownBlock with
                    | none => exact .inl (hb.trans hob)
                    | some g =>
                      obtain ⟨z3, z4, z5⟩ := hblk g hob
                      exact .inr (.inr ⟨z3, by rw [hb, hob, z4], by rw [z5]; exact hmono⟩)) p2 (fun g e3 oo hR => by
                  obtain ⟨z1, z2⟩ := hrow g e3
                  obtain ⟨z3, z4, z5⟩ := hblk g z1
                  obtain ⟨_, _, hRR⟩ := hs.idk q z3
                  have hlt := (hRR g z4 oo).1 hR
                  rw [z5] at hlt
                  have hcl : oo < cs.length := by rw [hown.1]; exact hlt
                  have g1 := hown.cells z1 oo _ (List.getElem?_eq_getElem hcl)
                  have g2 := p2.cells z2 oo cs[oo] (by rw [List.getElem?_append_left hcl]; exact List.getElem?_eq_getElem hcl)
                  rw [add_eq, Nat.zero_add] at g1 g2
                  rw [g1, g2])
              have hR : ∀ g, v'.ownBlock = some g → ∀ oo, oo < (xs ++ ys).length * u.size → (X.withId q v' e u.size (xs.length + List.length ys)).R g oo := fun g hg oo ho => .inr ⟨hg, by rw [← hzl]; exact ho⟩
              have hrd := reads_own (e := e) (zs := xs ++ ys) ((keepArr L.kp harr).append (keepArr L.kp q1)) (by rw [hzl]; exact p2) hR
              refine ⟨_, _, hk, OpRes.value (hex p1) s1 ⟨_, ⟨hrd, ?_⟩, rfl⟩⟩
              refine ⟨by rcases hq with hq | hq <;> simp only <;> omega, by rw [ver_cons]; simp, fun _ => ⟨by simp [Ctx.withId], e, u, rfl, by simp [Ctx.withId, Dat.len]⟩⟩
            rcases p3 with ⟨g1, g2⟩ | ⟨g, g1, g2, g3⟩
            · refine main none g1 (fun g e3 => (nomatch e3)) ?_
              rcases g2 with g2 | g2
              · exact .inr (.inl g2)
              · rw [g2]; exact .inr (.inr rfl)
            · exact main (some g) g3 (fun g' e3 => by injection e3 with e3; subst e3; exact ⟨g1, g2⟩) (.inr (.inr (by rw [g1, g2])))
          split at h
          · -- nil
            have r2 : css = [.slice none 0 0] := r2
            rw [r3] at r2
            have ev : a.eval x = .slice none 0 0 := ((List.cons.injEq _ _ _ _).mp r2).1
            rw [r3, ev] at r1
            obtain ⟨A', c', e3, _⟩ := r1
            have e3 : Value.slice none 0 0 = Value.slice A' xs.length c' := ((List.cons.injEq _ _ _ _).mp e3).1
            injection e3 with _ e4 _
            have hx0 : xs = [] := List.eq_nil_of_length_eq_zero e4.symm
            subst hx0
            refine fin S.nid 0 (S.nid + 1) [] (by rw [ev]; exact World.ownsRow_nil w 0 e u.size) (.inr ⟨rfl, rfl⟩) (fun g hg => by rw [ev] at hg; cases hg) (fun hh => absurd hh (Nat.lt_irrefl _)) h
          · rename_i q v
            cases htip : tip S (.own q v) <;> rw [htip] at h <;> simp only [cond_true, cond_false] at h
            · cases h
            · obtain ⟨t1, t2⟩ := tip_own htip
              obtain ⟨_, _, r2⟩ := r2
              obtain ⟨r4, e5, u5, r5, r6⟩ := r2 t2
              injection r5 with r7 r8; subst r7 r8
              rw [r3] at r4
              have ev : a.eval x = X.hd q := ((List.cons.injEq _ _ _ _).mp r4).1
              obtain ⟨cells, i1, i2⟩ := hs.idk q t1
              rw [r6] at i1 i2
              have hinf : (X.inf q).2.2 * (X.inf q).2.1 = xs.length * u.size := by rw [r6]; rfl
              exact fin q (v + 1) S.nid cells (by rw [ev]; exact i1) (.inl ⟨t1, rfl, by omega⟩) (fun g hg => ⟨t1, by rw [← ev]; exact hg, hinf⟩) (fun _ => ⟨ev.symm, hinf⟩) h
          · cases h
      · cases h
  · cases h

theorem zip2 {t t' : TypeId} {x y : Operand} {tys : Array TypeId} {args : Array Operand} (h : tys.toList.zip args.toList = [(t, x), (t', y)]) (hl : tys.size = args.size) : tys = #[t, t'] ∧ args = #[x, y] := by
  obtain ⟨tl⟩ := tys
  obtain ⟨al⟩ := args
  simp at h hl
  match tl, al, h, hl with
  | [a, b], [c, d], h, _ =>
    simp at h
    obtain ⟨⟨rfl, rfl⟩, rfl, rfl⟩ := h
    exact ⟨rfl, rfl⟩
  | [a], [c, d], h, hl => simp at hl
  | [], [], h, _ => simp at h
  | [a], [b], h, _ => simp at h
  | a :: b :: c :: r, d :: e :: f :: g, h, _ => simp at h

theorem zip1 {t : TypeId} {x : Operand} {tys : Array TypeId} {args : Array Operand} (h : tys.toList.zip args.toList = [(t, x)]) (hl : tys.size = args.size) : tys = #[t] ∧ args = #[x] := by
  obtain ⟨tl⟩ := tys
  obtain ⟨al⟩ := args
  simp at h hl
  match tl, al, h, hl with
  | [a], [c], h, _ =>
    simp at h
    obtain ⟨rfl, rfl⟩ := h
    exact ⟨rfl, rfl⟩
  | [], [], h, _ => simp at h
  | a :: b :: c, d :: e :: f, h, _ => simp at h

theorem foldInt_run {f : Int → Int → Int} {g2 : Value → Value → Sem Value} {q : IntKind} (hg : ∀ (x y : Int) (w : World), (g2 (.int q x) (.int q y)).run P w = .ok (.int q (f x y)) w) (hs : Sim C E S X a w) :
    ∀ (l : List (TypeId × Operand)) (x m : Int), foldInt f q x (l.map fun p => opv C S p.1 p.2) = some m → ((l.map fun p => a.eval p.2).foldlM g2 (.int q x)).run P w = .ok (.int q m) w
  | [], x, m, h => by
    simp [foldInt] at h; subst h; rfl
  | p :: l, x, m, h => by
    simp only [List.map_cons] at h
    unfold foldInt at h
    split at h
    · cases ‹_ = []›
    · rename_i x' q' b tg r heq
      injection heq with e1 e2
      cases hq : decide (q = q') <;> rw [hq] at h <;> simp only [cond_true, cond_false] at h
      · cases h
      · have hq := of_decide_eq_true hq; subst hq
        have hp := opv_rep hs p.1 p.2
        rw [e1] at hp
        simp only [List.map_cons, List.foldlM_cons, Sem.run_bind, int_rep hp, hg, Result.andThen_ok]
        exact foldInt_run hg hs l _ m (by rw [e2]; exact h)
    · cases h

theorem op_builtin {Out : Type} (hC : CfgOK P C) {o : Oper} {b : Builtin} {args : Array Operand} {tys : Array TypeId} {k : AV → AS → Option Out} {r : Out} (ho : o.op = .call { callee := .builtin b, args := args, argTypes := tys }) (hl : tys.size = args.size) (h : builtinC C S b (tys.toList.zip args.toList) k = some r) (hs : Sim C E S X a w) :
    ∃ v S', k v S' = some r ∧ OpRes P C E o a w S' v := by
  unfold builtinC at h
  split at h
  · rename_i t x hz
    obtain ⟨rfl, rfl⟩ := zip1 hz hl
    have hx := opv_rep hs t x
    have fin : ∀ {n : Int}, (∀ ty : TypeId, (Builtin.len_ #[t] ty #[a.eval x]).run P w = .ok (.int .i64 n) w) → (execOp a.eval o).run P w = .ok (.value (.int .i64 n)) w := by
      intro n hn
      refine exec_builtin ho fun consts => ?_
      have e : (#[x].map a.eval) = #[a.eval x] := by simp
      simp only [builtin, Sem.run_bind, e, hn, Result.andThen_ok, Sem.run_pure]
    split at h
    · rename_i d hd
      rw [hd] at hx
      cases ht : tyIs C t d.t <;> rw [ht] at h <;> simp only [cond_true, cond_false] at h
      · cases h
      · obtain ⟨n, p1, p2⟩ := lenC_run hC hs hx (.inl ⟨d, rfl, tyIs_eq ht⟩) h
        exact ⟨_, _, p1, OpRes.value (fin p2) hs (rep_int _ _)⟩
    · rename_i bb hd
      rw [hd] at hx
      split at h
      · rename_i e u xs hb
        cases ht : tyIs C t (.slice e u) <;> rw [ht] at h <;> simp only [cond_true, cond_false] at h
        · cases h
        · obtain ⟨n, p1, p2⟩ := lenC_run hC hs hx (.inr ⟨bb, e, u, xs, rfl, hb, tyIs_eq ht⟩) h
          exact ⟨_, _, p1, OpRes.value (fin p2) hs (rep_int _ _)⟩
      · cases h
    · cases h
  · rename_i t x t' y hz
    obtain ⟨rfl, rfl⟩ := zip2 hz hl
    cases ht : Nat.beq t t' <;> rw [ht] at h <;> simp only [cond_true, cond_false] at h
    · cases h
    · have ht := Nat.eq_of_beq_eq_true ht; subst ht
      exact op_append hC ho h hs
  · rename_i t x rr hz
    split at h
    · rename_i q i tg hd
      split at h
      · rename_i m hm
        have hx := opv_rep hs t x
        rw [hd] at hx
        refine ⟨_, _, h, OpRes.value (c := .int q m) (exec_builtin ho fun consts => ?_) hs (rep_int _ _)⟩
        have e : (args.map a.eval).toList = a.eval x :: rr.map fun p => a.eval p.2 := by
          have : args.toList = ((t, x) :: rr).map (·.2) := by rw [← hz]; rw [List.map_snd_zip (by simp [hl])]
          simp [this]
        have hf := foldInt_run (P := P) (f := mxI) (g2 := Builtin.max2) (q := q) (fun x y w => by simp [Builtin.max2, mxI]) hs rr i m hm
        simp only [builtin, Sem.run_bind, Builtin.max_, e, int_rep hx, hf, Result.andThen_ok, Sem.run_pure]
      · cases h
    · cases h
  · rename_i t x rr hz
    split at h
    · rename_i q i tg hd
      split at h
      · rename_i m hm
        have hx := opv_rep hs t x
        rw [hd] at hx
        refine ⟨_, _, h, OpRes.value (c := .int q m) (exec_builtin ho fun consts => ?_) hs (rep_int _ _)⟩
        have e : (args.map a.eval).toList = a.eval x :: rr.map fun p => a.eval p.2 := by
          have : args.toList = ((t, x) :: rr).map (·.2) := by rw [← hz]; rw [List.map_snd_zip (by simp [hl])]
          simp [this]
        have hf := foldInt_run (P := P) (f := mnI) (g2 := Builtin.min2) (q := q) (fun x y w => by simp [Builtin.min2, mnI]) hs rr i m hm
        simp only [builtin, Sem.run_bind, Builtin.min_, e, int_rep hx, hf, Result.andThen_ok, Sem.run_pure]
      · cases h
    · cases h
  · cases h

theorem made_cells {R : Nat → Nat → Prop} {u : Ty} : ∀ n : Nat, ArrRep R w u (List.replicate n u.zero) (List.replicate n (zeroCells u)).flatten
  | 0 => rfl
  | n + 1 => by
    rw [List.replicate_succ, List.replicate_succ, List.flatten_cons]
    exact ⟨_, _, rfl, reads_zero R w u, made_cells n⟩

theorem made_eq {z : List Value} (hz : 0 < z.length) (n : Nat) : madeCells z.toArray (n * z.length) = (List.replicate n z).flatten.toArray := by
  apply Array.ext'
  have key : ∀ n : Nat, (List.replicate n z).flatten = (List.range (n * z.length)).map (fun i => z[i % z.length]!) := by
    intro n
    induction n with
    | zero => simp
    | succ n ih =>
      rw [List.replicate_succ', List.flatten_append, ih, Nat.add_mul, Nat.one_mul, List.range_add, List.map_append]
      congr 1
      simp only [List.flatten_cons, List.flatten_nil, List.append_nil, List.map_map]
      apply List.ext_getElem
      · simp
      · intro i h1 h2
        simp only [List.getElem_map, List.getElem_range, Function.comp]
        have : (n * z.length + i) % z.length = i := by
          rw [Nat.mul_comm, Nat.mul_add_mod]
          exact Nat.mod_eq_of_lt h1
        rw [this, getElem!_pos z i h1]
  rw [key n]
  simp [madeCells, Array.toList_range]

theorem op_makeSlice {Out : Type} (hC : CfgOK P C) {o : Oper} {t : TypeId} {l c : Operand} {k : AV → AS → Option Out} {r : Out} {env : Env C} (ho : o.op = .makeSlice t l c) (h : evalOp C env S o k = some r) (hs : Sim C E S X a w) :
    ∃ v S', k v S' = some r ∧ OpRes P C E o a w S' v := by
  have hl := opv_rep hs 0 l
  have hc := opv_rep hs 0 c
  unfold evalOp at h; rw [ho] at h; dsimp only at h
  split at h
  · rename_i e u n m h1 h2 h3
    cases hd : (decide (0 ≤ n) && decide (n ≤ (cap : Int)) && decide (n = m)) <;> rw [hd] at h <;> simp only [cond_true, cond_false] at h
    · cases h
    · simp at hd
      obtain ⟨⟨d1, d2⟩, rfl⟩ := hd
      obtain ⟨q, tg, h2⟩ := datInt_some h2
      obtain ⟨q', tg', h3⟩ := datInt_some h3
      rw [h2] at hl; rw [h3] at hc
      obtain ⟨hdd, he, hpos⟩ := (hC _ _ h1).desc
      obtain ⟨i, hi, hsz, hz, hby⟩ := (hC _ _ he).info
      have hcap : n ≤ 2147483648 := d2
      have hbytes : (i.bytes : Int) * n ≤ 281474976710656 := by
        have h1 : (i.bytes : Int) * n ≤ 65536 * 2147483648 := Int.mul_le_mul (by omega) hcap d1 (by omega)
        omega
      have hrun := run_make (P := P) w t e i (zeroVal u) hdd hi hz q q' n n d1 (Int.le_refl _) hbytes (by omega)
      rw [zeroVal_cells, hsz] at hrun
      have hzl : (zeroCells u).length = u.size := (reads_zero (fun _ _ => True) w u).size
      rw [← hzl, made_eq (by rw [hzl]; exact hpos)] at hrun
      have hex : (execOp a.eval o).run P w = .ok (.value (.slice (some ⟨w.heap.size, 0, none⟩) n.toNat n.toNat)) (w.alloc (.cells (List.replicate n.toNat (zeroCells u)).flatten.toArray e)) := by
        unfold execOp; rw [ho]; dsimp only
        simp only [Sem.run_bind, int_rep hl, int_rep hc, hrun, Result.andThen_ok, Sem.run_pure]
      refine ⟨_, _, h, OpRes.value hex (hs.newBox _ _ ?_) ⟨e, u, n.toNat, by simp [AS.newBox], by rw [box_newBox, if_pos rfl]; simp [Sh], by simp [Ctx.withBox]⟩⟩
      exact ⟨_, he, made_cells n.toNat, by simpa [Ctx.withBox] using (heap_alloc_new w _), fun oo => by simpa [Ctx.withBox] using fun rr => Nat.lt_irrefl _ (hs.fr.lt _ _ rr)⟩
  · cases h

end
end Go.Proofs.YtmgeeanbecmkbaaGreatDoor.Den
