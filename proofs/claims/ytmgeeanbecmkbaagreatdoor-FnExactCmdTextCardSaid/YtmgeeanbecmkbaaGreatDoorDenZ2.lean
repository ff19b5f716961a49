/- DenZ2: slice literals, make, append, len, max, min. -/
import Derived.Test.YtmgeeanbecmkbaaGreatDoorDenZ
namespace Go.Proofs.YtmgeeanbecmkbaaGreatDoor.Den
open Go
set_option linter.unusedVariables false

section
variable {P : Program} {C : Cfg} {E : Entry C} {S S' : AS} {X X' : Ctx} {a : Act} {w w' : World}

theorem elems_rep {u : Ty} {e : TypeId} (hs : Sim C E S X a w) : ∀ {l : List Operand} {xs : List u.D}, elems u (l.map (opv C S e)) = some xs →
    ∃ cs, ArrRep X.R w u xs cs ∧ xs.length = l.length ∧ (l.map a.eval).flatMap (fun v => v.cells.toList) = cs ∧ ∀ v ∈ l.map a.eval, v.cells.size = u.size
  | [], xs, h => by
    simp [elems] at h; subst h
    exact ⟨[], rfl, rfl, rfl, by simp⟩
  | x :: l, xs, h => by
    simp only [List.map_cons, elems] at h
    split at h
    · rename_i y ys hy hys
      injection h with h; subst h
      obtain ⟨c1, r1, r2⟩ := toD_rep hy (opv_rep hs e x)
      obtain ⟨cs, q1, q2, q3, q4⟩ := elems_rep hs hys
      have hcc := cells_of_toVal r1 r2
      refine ⟨c1 ++ cs, ⟨c1, cs, rfl, r1, q1⟩, by simp [q2], by simp [hcc, q3], fun v hv => ?_⟩
      rcases List.mem_cons.1 hv with e1 | e1
      · subst e1; rw [hcc]; simpa using r1.size
      · exact q4 v e1
    · cases h

theorem idx_parts {α β : Type} (f : α → β) : ∀ (ps : List (Nat × α)) (i : Nat), ((ps.map (·.1)).zipIdx i).all (fun p => Nat.beq p.1 p.2) = true → ps.map (fun p => (p.1, f p.2)) = ((ps.map fun p => f p.2).zipIdx i).map fun x => (x.2, x.1)
  | [], _, _ => rfl
  | p :: ps, i, h => by
    simp only [List.map_cons, List.zipIdx_cons, List.all_cons, Bool.and_eq_true] at h
    have := Nat.eq_of_beq_eq_true h.1
    simp only [List.map_cons, List.zipIdx_cons, idx_parts f ps (i + 1) h.2, this]

theorem run_buildSlice' {t e : TypeId} {u : Ty} (hC : CfgOK P C) (ht : C.ty t = some (.slice e u)) {n : Nat} (hn : n < 1024) {vs : List Value} (hl : vs.length = n) (hv : ∀ v ∈ vs, v.cells.size = u.size) {parts : Array (Nat × Value)} (hp : parts.toList = (vs.zipIdx 0).map fun x => (x.2, x.1)) (hu16 : u.size ≤ 1024) :
    (Instr.buildSlice t n parts).run P w = .ok (.slice (some ⟨w.heap.size, 0, none⟩) n n) (w.alloc (.cells (vs.flatMap fun v => v.cells.toList).toArray e)) := by
  obtain ⟨hd, he, hpos⟩ := (hC _ _ ht).desc
  obtain ⟨i, hi, hsz, hz, _⟩ := (hC _ _ he).info
  by_cases hn0 : n = 0
  · subst hn0
    have : vs = [] := List.eq_nil_of_length_eq_zero hl
    subst this
    have hp' : parts = #[] := by
      have : parts.toList = [] := by simpa using hp
      exact Array.toList_eq_nil_iff.1 this
    subst hp'
    simp [Instr.buildSlice, run_underlying hd, sizeOf, typeInfo, hi, Instr.fill, newRow]
    congr 2
    exact Array.eq_empty_of_size_eq_zero (by simp)
  · have hpos2 : 0 < n * i.size := by rw [hsz]; exact Nat.mul_pos (by omega) hpos
    have hmul : n * i.size ≤ 1024 * 1024 := by rw [hsz]; exact Nat.mul_le_mul (by omega) hu16
    have hfill := Great.fill_whole (s := u.size) hpos vs ((Array.range (n * i.size)).map ((zeroVal u).cells[· % (zeroVal u).cells.size]!)) hv (by simp [hl, hsz])
    rw [← hsz] at hfill
    exact run_buildSlice w t e n parts _ i (zeroVal u) hd hi hz (by omega) (by omega) (by rw [hp]; exact hfill)

theorem exec_buildSlice {o : Oper} {t : TypeId} {n : Nat} {ps : Array (Nat × Operand)} (ho : o.op = .buildSlice t n ps) {c : Value} (h : (Instr.buildSlice t n (ps.map fun x => (x.1, a.eval x.2))).run P w = .ok c w') : (execOp a.eval o).run P w = .ok (.value c) w' := by
  unfold execOp; rw [ho]; dsimp only
  simp only [Sem.run_bind, h, Result.andThen_ok, Sem.run_pure]

theorem reads_new {t : Ty} {e : TypeId} {zs : List t.D} {cs : List Value} {R : Nat → Nat → Prop} {n : Nat} (hr : ArrRep R w' t zs cs) (hh : w'.heap[n]? = some (.cells cs.toArray e (0, 0))) (hl : zs.length ≤ maxLen) : w'.ownsRow 0 e t.size (.slice (some ⟨n, 0, none⟩) zs.length zs.length) zs.length cs :=
  ⟨hr.size, .inr ⟨n, zs.length, cs.toArray, rfl, Nat.zero_le _, hh, Nat.le_refl _, hl, by simpa using hr.size, by rw [← hr.size]; simp⟩⟩

theorem op_buildSlice {Out : Type} (hC : CfgOK P C) (h16 : ∀ t u, C.ty t = some u → u.size ≤ 1024) {o : Oper} {t : TypeId} {n : Nat} {ps : Array (Nat × Operand)} {k : AV → AS → Option Out} {r : Out} {env : Env C} (ho : o.op = .buildSlice t n ps) (h : evalOp C env S o k = some r) (hs : Sim C E S X a w) :
    ∃ v S', k v S' = some r ∧ OpRes P C E o a w S' v := by
  unfold evalOp at h; rw [ho] at h; dsimp only at h
  split at h
  · rename_i e u ht
    cases hc : (Nat.beq ps.size n && Nat.blt n 1024 && (ps.toList.map (·.1)).zipIdx.all (fun p => Nat.beq p.1 p.2)) <;> rw [hc] at h <;> simp only [cond_true, cond_false] at h
    · cases h
    · simp only [Bool.and_eq_true] at hc
      obtain ⟨⟨hc1, hc2⟩, hc3⟩ := hc
      have hc1 := Nat.eq_of_beq_eq_true hc1
      have hc2 : n < 1024 := by have h2 := hc2; simp [Nat.blt] at h2; omega
      split at h
      · rename_i xs hxs
        have hxs' : elems u ((ps.toList.map (·.2)).map (opv C S e)) = some xs := by rw [List.map_map]; exact hxs
        obtain ⟨cs, q1, q2, q3, q4⟩ := elems_rep hs hxs'
        obtain ⟨_, he, _⟩ := (hC _ _ ht).desc
        have hlen : xs.length = n := by rw [q2]; simp [← hc1]
        have hp : (ps.map fun x => (x.1, a.eval x.2)).toList = (((ps.toList.map (·.2)).map a.eval).zipIdx 0).map fun x => (x.2, x.1) := by
          have := idx_parts a.eval ps.toList 0 hc3
          rw [List.map_map]
          simpa [Function.comp_def] using this
        have hrun := run_buildSlice' (P := P) (w := w) hC ht hc2 (vs := (ps.toList.map (·.2)).map a.eval) (by simp [← hc1]) q4 hp (h16 _ _ he)
        rw [q3] at hrun
        have hnew : (w.alloc (.cells cs.toArray e)).heap[w.heap.size]? = some (.cells cs.toArray e (0, 0)) := heap_alloc_new w _
        have hg : w.grownBy (w.alloc (.cells cs.toArray e)) none := World.grownBy_alloc w _ none
        have hml : xs.length ≤ maxLen := by rw [hlen]; unfold maxLen; omega
        have K0 : Keeps X.R X.R w (w.alloc (.cells cs.toArray e)) := keeps_block (fun _ _ r => r) (fun g _ r => heap_old (hs.fr.lt _ _ r))
        have hown := reads_new (keepArr K0 q1) hnew hml
        rw [hlen] at hown
        obtain ⟨s1, L⟩ := hs.setId (q := S.nid) (ver := 0) (nid' := S.nid + 1) (row := none) (.inr ⟨rfl, rfl⟩) hg (fun g e => (nomatch e)) (.inr (.inl rfl)) hown (fun g e => (nomatch e))
        have hR : ∀ g, (Value.slice (some ⟨w.heap.size, 0, none⟩) n n).ownBlock = some g → ∀ o, o < xs.length * u.size → (X.withId S.nid (.slice (some ⟨w.heap.size, 0, none⟩) n n) e u.size n).R g o := fun g hg o ho => .inr ⟨hg, by rw [← hlen]; exact ho⟩
        have hrd := reads_own (e := e) (keepArr L.kp q1) (by rw [hlen]; exact hown) hR
        rw [Bool.cond_eq_ite] at h
        split at h
        rotate_left
        · refine ⟨_, _, h, OpRes.value (exec_buildSlice ho hrun) s1 ⟨_, ⟨hrd, ?_⟩, rfl⟩⟩
          refine ⟨Nat.lt_succ_self _, ?_, fun _ => ⟨?_, e, u, rfl, ?_⟩⟩
          · rw [ver_cons]; simp
          · simp [Ctx.withId]
          · simp [Ctx.withId, Dat.len, hlen]
        · have hs2 : Sim C E S (X.withR w.heap.size (xs.length * u.size)) a (w.alloc (.cells cs.toArray e)) := hs.allocR _ _
          refine ⟨_, S, h, OpRes.value (exec_buildSlice ho hrun) hs2 ⟨_, ⟨?_, trivial⟩, rfl⟩⟩
          refine reads_own (e := e) (keepArr ⟨fun g o r => .inl r, K0.cell⟩ q1) (by rw [hlen]; exact hown) fun g hg o ho => .inr ⟨?_, ho⟩
          simp [Value.ownBlock] at hg
          exact hg.symm
      · cases h
  · cases h


/-- append, run: the new row, and what of memory has turned. -/
theorem run_append_tip {t ty e : TypeId} {u : Ty} (hC : CfgOK P C) (ht : C.ty t = some (.slice e u)) {v x : Value} {n m : Nat} {cs news : List Value} {A : Option Addr} {cp : Nat}
    (hv : w.ownsRow 0 e u.size v n cs) (hx : x = .slice A m cp) (hl : news.length = m * u.size) (hn : ∀ g o, A = some ⟨g, o, none⟩ → ∀ j y, news[j]? = some y → w.cell? ⟨g, o + j, none⟩ = some y) (hA : 0 < m → ∃ g o, A = some ⟨g, o, none⟩) (hAs : ∀ ad, A = some ad → 0 < m → ad.spot = none)
    (h1 : ∀ y ∈ news, y.oneCell' = true) (hcap : n + m ≤ cap) :
    ∃ v' w', (Builtin.append_ #[t, t] ty #[v, x]).run P w = .ok v' w' ∧ w'.ownsRow 0 e u.size v' (n + m) (cs ++ news) ∧
      ((w.grownBy w' none ∧ (v'.ownBlock = some w.heap.size ∨ v' = v)) ∨ (∃ g, v.ownBlock = some g ∧ v'.ownBlock = some g ∧ w.grownBy w' (some g))) := by
  obtain ⟨hd, he, hpos⟩ := (hC _ _ ht).desc
  obtain ⟨i, hi, hsz, hz, hby⟩ := (hC _ _ he).info
  subst hx
  have hlen : (cs ++ news).length = (n + m) * u.size := by rw [List.length_append, hv.1, hl, Nat.add_mul]
  have hc2 : n + m ≤ 2147483648 := hcap
  have hbytes : (n + m) * i.bytes ≤ 140737488355328 := by
    have := Nat.mul_le_mul hc2 hby
    omega
  rcases Nat.eq_zero_or_pos m with hm | hm
  · subst hm
    have hne : news = [] := List.eq_nil_of_length_eq_zero (by simpa using hl)
    subst hne
    have hstay : (Builtin.append_ #[t, t] ty #[v, .slice A 0 cp]).run P w = .ok v w := by
      rcases hv.2 with ⟨rfl, rfl⟩ | ⟨g, c, cur, rfl, _, h4, h5, _⟩
      · cases A <;> simp [Builtin.append_, run_underlying hd, sizeOf, typeInfo, hi, Builtin.lenOf, Builtin.firstCells, loadCells, loadCellsFrom]
      · cases A <;> simp [Builtin.append_, run_underlying hd, sizeOf, typeInfo, hi, Builtin.lenOf, Builtin.firstCells, loadCells, loadCellsFrom, h5, storeCells]
    refine ⟨v, w, hstay, by simpa using hv, ?_⟩
    exact .inl ⟨⟨rfl, rfl, rfl, Nat.le_refl _, fun _ _ _ => rfl⟩, .inr rfl⟩
  · obtain ⟨g, o, rfl⟩ := hA hm
    have hnews : ∀ j y, news[j]? = some y → w.cell? ((⟨g, o, none⟩ : Addr).add j) = some y := fun j y hj => by rw [add_eq]; exact hn g o rfl j y hj
    have grown : ∀ (old : Nat), w.drew.alloc (.cells (cs.toArray ++ news.toArray ++ Builtin.zeroCells (zeroVal u).cells (grownCap w (n + m) old e - (n + m))) e) |>.ownsRow 0 e u.size (.slice (some ⟨w.heap.size, 0, none⟩) (n + m) (grownCap w (n + m) old e)) (n + m) (cs ++ news) := by
      intro old
      refine ⟨hlen, .inr ⟨w.heap.size, _, _, rfl, Nat.zero_le _, heap_alloc_new w.drew _, grownCap_ge w (n + m) old e, grownCap_le_maxLen w (n + m) old e (by unfold maxLen; omega), ?_, ?_⟩⟩
      · have hge := grownCap_ge w (n + m) old e
        have hzs : (zeroVal u).cells.size = u.size := by
          rw [zeroVal_cells]; simpa using (reads_zero (fun _ _ => True) w u).size
        simp only [Array.size_append, List.size_toArray, size_zeroCells, hzs, hv.1, hl, ← Nat.add_mul]
        congr 1
        omega
      · simp only [Array.toList_append, List.append_assoc]
        rw [← List.append_assoc, ← hlen]
        exact List.take_left
    have gby : ∀ (o : Obj), w.grownBy (w.drew.alloc o) none := fun o => ⟨rfl, rfl, rfl, by simp, fun k hk _ => heap_alloc_old w.drew _ hk⟩
    rcases hv.2 with ⟨rfl, rfl⟩ | ⟨h, c, cur, rfl, _, h4, h5, h6, h7, h8⟩
    · have hcs : cs = [] := List.eq_nil_of_length_eq_zero (by simpa using hv.1)
      subst hcs
      have hr := run_append_nil (P := P) w t ty e i (zeroVal u) hd hi hz ⟨g, o, none⟩ m cp news (by rw [hsz]; exact hl) hnews hm (by omega) (by simp only [Nat.zero_add] at hbytes; omega)
      have hgr := grown 0
      simp only [Nat.zero_add, List.nil_append, Array.empty_append] at hgr ⊢
      exact ⟨_, _, hr, hgr, .inl ⟨gby _, .inl rfl⟩⟩
    · by_cases hroom : n + m ≤ c
      · have hfit : n * i.size + news.length ≤ cur.size := by rw [hl, h7, hsz, ← Nat.add_mul]; exact Nat.mul_le_mul_right _ hroom
        have hr := run_append_room (P := P) w t ty e i hd hi h n c cur h4 ⟨g, o, none⟩ m cp news (by rw [hsz]; exact hl) hnews h1 hroom hfit
        refine ⟨_, _, hr, ⟨hlen, .inr ⟨h, c, _, rfl, Nat.zero_le _, setRow_heap w h cur _ e _ h4, hroom, h6, ?_, ?_⟩⟩, .inr ⟨h, rfl, rfl, ⟨rfl, rfl, rfl, by simp, fun k _ hk => setRow_other w h k _ (fun e => hk (by rw [e]))⟩⟩⟩
        · simp only [List.size_toArray, List.length_append, List.length_take, List.length_drop, Array.length_toList]
          omega
        · rw [hsz, h8, ← hlen]
          exact List.take_left
      · have holds : ∀ j y, cs[j]? = some y → w.cell? ((⟨h, 0, none⟩ : Addr).add j) = some y := hv.cells (g := h) rfl
        have hr := run_append_grow (P := P) w t ty e i (zeroVal u) hd hi hz ⟨h, 0, none⟩ n c cs (by rw [hsz]; exact hv.1) holds ⟨g, o, none⟩ m cp news (by rw [hsz]; exact hl) hnews (by omega) (by omega) (growslice_fits (by omega) hbytes)
        exact ⟨_, _, hr, grown c, .inl ⟨gby _, .inl rfl⟩⟩

end
end Go.Proofs.YtmgeeanbecmkbaaGreatDoor.Den
