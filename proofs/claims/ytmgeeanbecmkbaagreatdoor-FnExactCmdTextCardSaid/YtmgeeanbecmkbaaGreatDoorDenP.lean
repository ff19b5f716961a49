/- DenP: what a call leaves of the state; an operation that calls. -/
import Derived.Test.YtmgeeanbecmkbaaGreatDoorDenQ
namespace Go.Proofs.YtmgeeanbecmkbaaGreatDoor.Den
open Go
set_option linter.unusedVariables false

section
variable {P : Program} {C : Cfg} {E : Entry C} {S S' : AS} {X X' : Ctx} {a : Act} {w w' : World}

theorem grow_frame {R' : Nat → Nat → Prop} {res res' : List Nat} (h : Frame' E X.R w) (A : After X.R w res R' w' res') (hres : ∀ g ∈ res, E.W g ∨ E.w0.heap.size ≤ g) : Frame' E R' w' := by
  refine ⟨A.os.trans h.os, A.tape.trans h.tape, A.output.trans h.output, Nat.le_trans h.size A.size, fun g hg hW => ?_, fun g o r => A.kp.sub g o (h.sub g o r), fun g o r => ?_, A.lt⟩
  · refine (A.block g (Nat.lt_of_lt_of_le hg h.size) fun hm => ?_).trans (h.block g hg hW)
    rcases hres g hm with h1 | h1
    · exact hW h1
    · omega
  · rcases A.new g o r with h1 | h1 | h1
    · exact h.new g o h1
    · exact .inr (.inl (Nat.le_trans h.size h1))
    · rcases hres g h1 with h2 | h2
      · exact .inr (.inr h2)
      · exact .inr (.inl h2)

theorem Sim.pureCall (h : Sim C E S X a w) {R' : Nat → Nat → Prop} {res' : List Nat} (A : After X.R w [] R' w' res') : Sim C E S { X with R := R' } a w' ∧ Le S S X { X with R := R' } w w' := by
  have L : Le S S X { X with R := R' } w w' := ⟨A.kp, Nat.le_refl _, fun _ _ => ⟨rfl, rfl⟩, Nat.le_refl _, fun _ _ => ⟨Nat.le_refl _, fun _ => ⟨rfl, rfl⟩⟩⟩
  have hh : ∀ g, g < w.heap.size → w'.heap[g]? = w.heap[g]? := fun g hg => A.block g hg (by simp)
  have hR : ∀ g o, g < w.heap.size → R' g o → X.R g o := fun g o hg r => by
    rcases A.new g o r with h1 | h1 | h1
    · exact h1
    · omega
    · simp at h1
  refine ⟨{ dfr := h.dfr, sz := h.sz, tm := fun d => (h.tm d).le L, bx := ?_, idk := ?_, bd := h.bd, ib := h.ib, ii := h.ii, wb := h.wb, wi := h.wi, ent := h.ent.le L, ck := h.ck.trans L.kp, fr := grow_frame h.fr A (by simp) }, L⟩
  · intro b hb
    by_cases hd : S.box b = .dead
    · rw [hd]; trivial
    · have hl := box_lt (h.bx b hb) hd
      exact (h.bx b hb).keep L (hh _ hl) rfl (fun o r => hR _ o hl r)
  · intro k hk
    refine (h.idk k hk).keep rfl rfl fun g hg => ?_
    have hl := id_lt (h.idk k hk) hg
    exact ⟨hh g hl, fun o => ⟨fun r => hR g o hl r, fun r => A.kp.sub g o r⟩⟩

theorem look_app {α : Type} : ∀ (l l2 : List (Nat × α)) (k : Nat), look (l ++ l2) k = (look l k).or (look l2 k)
  | [], l2, k => rfl
  | (j, v) :: l, l2, k => by
    rw [List.cons_append, look_cons, look_cons, look_app l l2 k]
    split <;> rfl

theorem look_fresh : ∀ (n m k : Nat), look (freshVers m n) k = if m ≤ k ∧ k < m + n then some 0 else none
  | 0, m, k => by rw [if_neg (by omega)]; rfl
  | n + 1, m, k => by
    unfold freshVers
    rw [look_cons, look_fresh n (m + 1) k]
    by_cases h : m = k
    · rw [if_pos h, if_pos (by omega)]
    · rw [if_neg h]
      by_cases h2 : m + 1 ≤ k ∧ k < m + 1 + n
      · rw [if_pos h2, if_pos (by omega)]
      · rw [if_neg h2, if_neg (by omega)]

theorem look_kill : ∀ {fs : List Dat} {ow : List Bool} {ks : List Nat} (k : Nat), tipIds S ow fs = some ks → look (killVers ow fs) k = if k ∈ ks then some (S.ver k + 1) else none
  | [], ow, ks, k, h => by
    simp [tipIds] at h; subst h
    simp [killVers, look]
  | d :: r, ow, ks, k, h => by
    obtain ⟨ks', k1, k2⟩ := tipIds_cons h
    have ih := look_kill k k1
    rcases k2 with ⟨k2, rfl⟩ | ⟨k2, e, u, hdt, k3⟩
    · have : killVers ow (d :: r) = killVers ow.tail r := by
        conv => lhs; unfold killVers
        rw [k2]; rfl
      rw [this]; exact ih
    · rcases k3 with ⟨k3, rfl⟩ | ⟨q, v, k3, k4, k5, rfl⟩
      · have : killVers ow (d :: r) = killVers ow.tail r := by
          conv => lhs; unfold killVers
          rw [k2, k3]; rfl
        rw [this]; exact ih
      · have : killVers ow (d :: r) = (q, v + 1) :: killVers ow.tail r := by
          conv => lhs; unfold killVers
          rw [k2, k3]; rfl
        rw [this, look_cons, ih]
        obtain ⟨_, t2⟩ := tip_own k4
        by_cases hq : q = k
        · subst hq
          rw [if_pos rfl, if_pos List.mem_cons_self, t2]
        · rw [if_neg hq]
          by_cases hm : k ∈ ks'
          · rw [if_pos hm, if_pos (List.mem_cons_of_mem _ hm)]
          · rw [if_neg hm, if_neg (fun h => by rcases List.mem_cons.1 h with h | h; exact hq h.symm; exact hm h)]

/-- Fields that came back, with their heads under new numbers from m on. -/
theorem fresh_rep {X' : Ctx} {S' : AS} {R : Nat → Nat → Prop} (hR : X'.R = R) : ∀ {l : List Dat} {cs : List Value} {ow : List Bool} {hs : Hds} {m : Nat}, FsTip R w ow l cs hs →
    (∀ i p, hs[i]? = some p → X'.hd (m + i) = p.1 ∧ X'.inf (m + i) = p.2 ∧ m + i < S'.nid ∧ S'.ver (m + i) = 0) →
      FsRep X' S' w (freshTags ow l m) cs ∧ (freshTags ow l m).map (·.t) = l.map (·.t) ∧ countSl ow l = hs.length
  | [], cs, ow, hs, m, h, _ => by
    obtain ⟨h1, h2⟩ := h
    subst h2
    exact ⟨h1, rfl, rfl⟩
  | d :: r, cs, ow, hs, m, h, hh => by
    obtain ⟨c1, c2, rfl, h1, h2⟩ := h
    cases ho : hdB ow with
    | false =>
      rw [if_neg (by simp [ho])] at h2
      obtain ⟨i1, i2, i3⟩ := fresh_rep hR h2 hh
      have e1 : freshTags ow (d :: r) m = ⟨d.t, d.x, .ro⟩ :: freshTags ow.tail r m := by
        conv => lhs; unfold freshTags
        rw [ho]; rfl
      have e2 : countSl ow (d :: r) = countSl ow.tail r := by
        conv => lhs; unfold countSl
        rw [ho]; rfl
      rw [e1, e2]
      exact ⟨⟨c1, c2, rfl, ⟨hR ▸ h1, trivial⟩, i1⟩, by simp [i2], i3⟩
    | true =>
      rw [if_pos ho] at h2
      obtain ⟨e, u, v, h3, hdt, rfl, rfl, h4⟩ := h2
      obtain ⟨i1, i2, i3⟩ := fresh_rep (m := m + 1) hR h4 (fun i p hp => by
        have := hh (i + 1) p (by simpa using hp)
        have e : m + (i + 1) = m + 1 + i := by omega
        rw [e] at this; exact this)
      have e1 : freshTags ow (d :: r) m = ⟨d.t, d.x, .own m 0⟩ :: freshTags ow.tail r (m + 1) := by
        conv => lhs; unfold freshTags
        rw [ho]; rfl
      have e2 : countSl ow (d :: r) = countSl ow.tail r + 1 := by
        conv => lhs; unfold countSl
        rw [ho]; rfl
      rw [e1, e2]
      obtain ⟨j1, j2, j3, j4⟩ := hh 0 _ rfl
      rw [Nat.add_zero] at j1 j2 j3 j4
      refine ⟨⟨[v], c2, rfl, ⟨hR ▸ h1, ?_⟩, i1⟩, by simp [i2], by simp [i3]⟩
      refine ⟨j3, by omega, fun _ => ⟨by rw [j1], e, u, hdt, ?_⟩⟩
      rw [j2]
      obtain ⟨dt, dx, dg⟩ := d
      simp only at hdt
      subst hdt
      rfl

theorem blocks_mem {hs : Hds} {i : Nat} {p : Value × TypeId × Nat × Nat} {g : Nat} (h : hs[i]? = some p) (hg : p.1.ownBlock = some g) : g ∈ blocksOf hs :=
  List.mem_filterMap.2 ⟨p, List.mem_of_getElem? h, hg⟩

theorem blocks_inj : ∀ {hs : Hds} {i j : Nat} {p q : Value × TypeId × Nat × Nat} {g : Nat}, (blocksOf hs).Nodup → hs[i]? = some p → hs[j]? = some q → p.1.ownBlock = some g → q.1.ownBlock = some g → i = j
  | [], i, j, p, q, g, _, h, _, _, _ => by simp at h
  | x :: r, 0, 0, p, q, g, _, _, _, _, _ => rfl
  | x :: r, 0, j + 1, p, q, g, hn, h1, h2, e1, e2 => by
    simp at h1; subst h1
    have hm : g ∈ blocksOf r := blocks_mem (by simpa using h2) e2
    simp only [blocksOf, List.filterMap_cons, e1] at hn
    exact absurd hm (List.nodup_cons.1 hn).1
  | x :: r, i + 1, 0, p, q, g, hn, h1, h2, e1, e2 => by
    simp at h2; subst h2
    have hm : g ∈ blocksOf r := blocks_mem (by simpa using h1) e1
    simp only [blocksOf, List.filterMap_cons, e2] at hn
    exact absurd hm (List.nodup_cons.1 hn).1
  | x :: r, i + 1, j + 1, p, q, g, hn, h1, h2, e1, e2 => by
    have hn' : (blocksOf r).Nodup := by
      cases hx : x.1.ownBlock with
      | none => simpa [blocksOf, hx] using hn
      | some g' =>
        simp only [blocksOf, List.filterMap_cons, hx] at hn
        exact (List.nodup_cons.1 hn).2
    have := blocks_inj hn' (show r[i]? = some p by simpa using h1) (show r[j]? = some q by simpa using h2) e1 e2
    omega

theorem Sim.ioCall (h : Sim C E S X a w) {b T : Nat} {fs : List Dat} {ow : List Bool} {ks : List Nat} {t : Ty} {y x' : t.D} {R' : Nat → Nat → Prop} {res' : List Nat} {hs' : Hds}
    (hb : b < S.nb) (hbx : S.box b = .fld T fs) (hks : tipIds S ow fs = some ks) (hy : pack t fs = some y)
    (A : After X.R w (X.β b :: blocksOf (hsOf X ow fs)) R' w' res') (hio : IoRep C R' w' T ow t x' (X.β b) hs') (hres : res' = X.β b :: blocksOf hs') :
    ∃ X', X'.R = R' ∧ Sim C E { S with boxes := (b, .fld T (freshTags ow (unpack t x') S.nid)) :: S.boxes, vers := freshVers S.nid (countSl ow (unpack t x')) ++ (killVers ow fs ++ S.vers), nid := S.nid + countSl ow (unpack t x') } X' a w' ∧
      Le S { S with boxes := (b, .fld T (freshTags ow (unpack t x') S.nid)) :: S.boxes, vers := freshVers S.nid (countSl ow (unpack t x')) ++ (killVers ow fs ++ S.vers), nid := S.nid + countSl ow (unpack t x') } X X' w w' := by
  have hb0 := h.bx b hb
  rw [hbx] at hb0
  obtain ⟨t0, cs, q1, q2, q3, q4, q5, q6, q7⟩ := hb0
  obtain ⟨i1, i2, i3, i4, i5⟩ := hs_ids h q4 hks
  obtain ⟨cs', r1, r2, r3⟩ := hio.rep
  have hdead : S.box b ≠ .dead := by rw [hbx]; exact fun e => (nomatch e)
  obtain ⟨n, hn⟩ : ∃ n, n = countSl ow (unpack t x') := ⟨_, rfl⟩
  rw [← hn]
  let X' : Ctx := { R := R', β := X.β, hd := fun k => if k < S.nid then (if k ∈ ks then .slice none 0 0 else X.hd k) else (hs'.getD (k - S.nid) (.slice none 0 0, 0, 0, 0)).1, inf := fun k => if k < S.nid then (if k ∈ ks then (0, 0, 0) else X.inf k) else (hs'.getD (k - S.nid) (.slice none 0 0, 0, 0, 0)).2 }
  let S' : AS := { S with boxes := (b, .fld T (freshTags ow (unpack t x') S.nid)) :: S.boxes, vers := freshVers S.nid n ++ (killVers ow fs ++ S.vers), nid := S.nid + n }
  have ver' : ∀ k, S'.ver k = if S.nid ≤ k ∧ k < S.nid + n then 0 else if k ∈ ks then S.ver k + 1 else S.ver k := by
    intro k
    show (look (freshVers S.nid n ++ (killVers ow fs ++ S.vers)) k).getD 0 = _
    rw [look_app, look_app, look_fresh, look_kill k hks]
    by_cases h1 : S.nid ≤ k ∧ k < S.nid + n
    · rw [if_pos h1, if_pos h1]; rfl
    · rw [if_neg h1, if_neg h1]
      by_cases h2 : k ∈ ks
      · rw [if_pos h2, if_pos h2]; rfl
      · rw [if_neg h2, if_neg h2]; rfl
  have box' : ∀ b', S'.box b' = if b = b' then .fld T (freshTags ow (unpack t x') S.nid) else S.box b' := by
    intro b'
    show (look ((b, _) :: S.boxes) b').getD .dead = _
    rw [look_cons]
    split <;> rfl
  have L : Le S S' X X' w w' := by
    refine ⟨A.kp, Nat.le_refl _, fun b' hb' => ⟨?_, rfl⟩, Nat.le_add_right _ _, fun k hk => ?_⟩
    · rw [box']
      split
      · rename_i e; subst e; rw [hbx]; rfl
      · rfl
    · rw [ver', if_neg (by omega)]
      by_cases hm : k ∈ ks
      · rw [if_pos hm]; exact ⟨Nat.le_succ _, fun e => by omega⟩
      · rw [if_neg hm]
        exact ⟨Nat.le_refl _, fun _ => ⟨by simp [X', hk, hm], by simp [X', hk, hm]⟩⟩
  have hnewhd : ∀ i p, hs'[i]? = some p → X'.hd (S.nid + i) = p.1 ∧ X'.inf (S.nid + i) = p.2 := by
    intro i p hp
    have h1 : ¬ (S.nid + i < S.nid) := by omega
    have h2 : S.nid + i - S.nid = i := by omega
    constructor
    · simp only [X', if_neg h1, h2, List.getD_eq_getElem?_getD, hp, Option.getD_some]
    · simp only [X', if_neg h1, h2, List.getD_eq_getElem?_getD, hp, Option.getD_some]
  have hnl : n = hs'.length := by
    have := (fresh_rep (X' := { X' with hd := fun k => (hs'.getD k (.slice none 0 0, 0, 0, 0)).1, inf := fun k => (hs'.getD k (.slice none 0 0, 0, 0, 0)).2 }) (S' := { S' with vers := [], nid := hs'.length }) (R := R') (m := 0) rfl r2 (fun i p hp => by
      have hi : i < hs'.length := by
        rcases Nat.lt_or_ge i hs'.length with h | h
        · exact h
        · rw [List.getElem?_eq_none h] at hp; cases hp
      simp only [Nat.zero_add, List.getD_eq_getElem?_getD, hp, Option.getD_some]
      exact ⟨trivial, trivial, hi, rfl⟩)).2.2
    rw [hn, this]
  obtain ⟨f1, f2, _⟩ := fresh_rep (X' := X') (S' := S') (R := R') (m := S.nid) rfl r2 (fun i p hp => by
    have hi : i < hs'.length := by
      rcases Nat.lt_or_ge i hs'.length with h | h
      · exact h
      · rw [List.getElem?_eq_none h] at hp; cases hp
    obtain ⟨g1, g2⟩ := hnewhd i p hp
    refine ⟨g1, g2, ?_, ?_⟩
    · show S.nid + i < S.nid + n; omega
    · rw [ver', if_pos (by omega)])
  have hdold : ∀ k, k < S.nid → k ∉ ks → X'.hd k = X.hd k ∧ X'.inf k = X.inf k := fun k hk hm => ⟨by simp [X', hk, hm], by simp [X', hk, hm]⟩
  have hdkill : ∀ k, k < S.nid → k ∈ ks → X'.hd k = .slice none 0 0 ∧ X'.inf k = (0, 0, 0) := fun k hk hm => ⟨by simp [X', hk, hm], by simp [X', hk, hm]⟩
  have knew : ∀ k, ¬ k < S.nid → k < S.nid + n → ∃ i p, k = S.nid + i ∧ hs'[i]? = some p := by
    intro k h1 h2
    refine ⟨k - S.nid, hs'[k - S.nid]'(by omega), by omega, List.getElem?_eq_getElem (by omega)⟩
  have hres0 : ∀ g ∈ X.β b :: blocksOf (hsOf X ow fs), E.W g ∨ E.w0.heap.size ≤ g := by
    intro g hg
    rcases List.mem_cons.1 hg with rfl | hg
    · exact h.wb b hb hdead
    · obtain ⟨k, m1, m2⟩ := i2 g hg
      exact h.wi k g (i5 k m1) m2
  have hoth : ∀ g, g < w.heap.size → g ≠ X.β b → g ∉ blocksOf (hsOf X ow fs) → w'.heap[g]? = w.heap[g]? := fun g hg h1 h2 => A.block g hg (fun hm => by
    rcases List.mem_cons.1 hm with hm | hm
    · exact h1 hm
    · exact h2 hm)
  have hRoth : ∀ g o, g < w.heap.size → g ≠ X.β b → g ∉ blocksOf (hsOf X ow fs) → R' g o → X.R g o := fun g o hg h1 h2 r => by
    rcases A.new g o r with h3 | h3 | h3
    · exact h3
    · omega
    · rcases List.mem_cons.1 h3 with h3 | h3
      · exact absurd h3 h1
      · exact absurd h3 h2
  have hnewblk : ∀ g ∈ blocksOf hs', g ≠ X.β b ∧ (g ∈ blocksOf (hsOf X ow fs) ∨ w.heap.size ≤ g) := by
    intro g hg
    have hnd := A.nd
    rw [hres] at hnd
    have hne : g ≠ X.β b := fun e => (List.nodup_cons.1 hnd).1 (e ▸ hg)
    refine ⟨hne, ?_⟩
    rcases A.res g (by rw [hres]; exact List.mem_cons_of_mem _ hg) with h1 | h1
    · rcases List.mem_cons.1 h1 with h1 | h1
      · exact absurd h1 hne
      · exact .inl h1
    · exact .inr h1
  have blk_not_box : ∀ b', b' < S.nb → S.box b' ≠ .dead → X.β b' ∉ blocksOf (hsOf X ow fs) := by
    intro b' hb' hd' hm
    obtain ⟨k, m1, m2⟩ := i2 _ hm
    exact h.ib k b' (i5 k m1) hb' hd' m2
  have hdead' : ∀ b', S'.box b' ≠ .dead ↔ S.box b' ≠ .dead := by
    intro b'
    rw [box']
    split
    · rename_i e; subst e; exact ⟨fun _ => hdead, fun _ => fun e => (nomatch e)⟩
    · exact Iff.rfl
  have hndh : (blocksOf hs').Nodup := by
    have hnd := A.nd
    rw [hres] at hnd
    exact (List.nodup_cons.1 hnd).2
  refine ⟨X', rfl, { dfr := h.dfr, sz := h.sz, tm := fun d => (h.tm d).le L, bx := ?_, idk := ?_, bd := ?_, ib := ?_, ii := ?_, wb := ?_, wi := ?_, ent := h.ent.le L, ck := h.ck.trans L.kp, fr := grow_frame h.fr A hres0 }, L⟩
  · intro b' hb'
    show BoxRep C X' S' w' b' (S'.box b')
    rw [box']
    split
    · rename_i e; subst e
      refine ⟨t, cs', hio.ty, hio.st, ?_, f1, r1, hio.nr, r3⟩
      rw [f2]
      exact pack_tys_un hio.st hy
    · rename_i e
      by_cases hd' : S.box b' = .dead
      · rw [hd']; trivial
      · have hl := box_lt (h.bx b' hb') hd'
        have hne : X.β b' ≠ X.β b := fun e2 => e (h.bd b b' hb hb' hdead hd' e2.symm)
        exact (h.bx b' hb').keep L (hoth _ hl hne (blk_not_box b' hb' hd')) rfl (fun o r => hRoth _ o hl hne (blk_not_box b' hb' hd') r)
  · intro k hk
    have hk : k < S.nid + n := hk
    by_cases h1 : k < S.nid
    · by_cases hm : k ∈ ks
      · obtain ⟨g1, g2⟩ := hdkill k h1 hm
        refine ⟨[], ?_, fun g hg => ?_⟩
        · rw [g1, g2]; exact World.ownsRow_nil w' 0 0 0
        · rw [g1] at hg; cases hg
      · obtain ⟨g1, g2⟩ := hdold k h1 hm
        refine (h.idk k h1).keep g1 g2 fun g hg => ?_
        have hl := id_lt (h.idk k h1) hg
        have hnb : g ≠ X.β b := fun e => h.ib k b h1 hb hdead (e ▸ hg)
        have hni : g ∉ blocksOf (hsOf X ow fs) := fun hmm => by
          obtain ⟨k', m1, m2⟩ := i2 g hmm
          exact hm ((h.ii k k' g h1 (i5 k' m1) hg m2) ▸ m1)
        exact ⟨hoth g hl hnb hni, fun o => ⟨fun r => hRoth g o hl hnb hni r, fun r => A.kp.sub g o r⟩⟩
    · obtain ⟨i, p, rfl, hp⟩ := knew k h1 hk
      obtain ⟨g1, g2⟩ := hnewhd i p hp
      obtain ⟨cells, z1, z2⟩ := hio.hd p (List.mem_of_getElem? hp)
      exact ⟨cells, by rw [g1, g2]; exact z1, by rw [g1, g2]; exact z2⟩
  · intro b1 b2 h1 h2 d1 d2 e
    exact h.bd b1 b2 h1 h2 ((hdead' b1).1 d1) ((hdead' b2).1 d2) e
  · intro k b' hk hb' hd' e
    have hk : k < S.nid + n := hk
    have hd' := (hdead' b').1 hd'
    by_cases h1 : k < S.nid
    · by_cases hm : k ∈ ks
      · rw [(hdkill k h1 hm).1] at e; cases e
      · rw [(hdold k h1 hm).1] at e; exact h.ib k b' h1 hb' hd' e
    · obtain ⟨i, p, rfl, hp⟩ := knew k h1 hk
      rw [(hnewhd i p hp).1] at e
      obtain ⟨n1, n2⟩ := hnewblk _ (blocks_mem hp e)
      rcases n2 with n2 | n2
      · exact blk_not_box b' hb' hd' n2
      · have := box_lt (h.bx b' hb') hd'
        exact absurd this (Nat.not_lt.2 n2)
  · intro k k' g hk hk' e1 e2
    have hk : k < S.nid + n := hk
    have hk' : k' < S.nid + n := hk'
    have oldnew : ∀ (k i : Nat) (p : Value × TypeId × Nat × Nat), k < S.nid → k ∉ ks → hs'[i]? = some p → (X.hd k).ownBlock = some g → p.1.ownBlock = some g → False := by
      intro k i p h1 hm hp g1 g2
      rcases (hnewblk _ (blocks_mem hp g2)).2 with n2 | n2
      · obtain ⟨k2, m1, m2⟩ := i2 g n2
        exact hm ((h.ii k k2 g h1 (i5 k2 m1) g1 m2) ▸ m1)
      · have := id_lt (h.idk k h1) g1
        omega
    by_cases h1 : k < S.nid <;> by_cases h2 : k' < S.nid
    · by_cases hm : k ∈ ks
      · rw [(hdkill k h1 hm).1] at e1; cases e1
      · by_cases hm' : k' ∈ ks
        · rw [(hdkill k' h2 hm').1] at e2; cases e2
        · rw [(hdold k h1 hm).1] at e1; rw [(hdold k' h2 hm').1] at e2
          exact h.ii k k' g h1 h2 e1 e2
    · by_cases hm : k ∈ ks
      · rw [(hdkill k h1 hm).1] at e1; cases e1
      · obtain ⟨i, p, rfl, hp⟩ := knew k' h2 hk'
        rw [(hdold k h1 hm).1] at e1; rw [(hnewhd i p hp).1] at e2
        exact (oldnew k i p h1 hm hp e1 e2).elim
    · by_cases hm : k' ∈ ks
      · rw [(hdkill k' h2 hm).1] at e2; cases e2
      · obtain ⟨i, p, rfl, hp⟩ := knew k h1 hk
        rw [(hdold k' h2 hm).1] at e2; rw [(hnewhd i p hp).1] at e1
        exact (oldnew k' i p h2 hm hp e2 e1).elim
    · obtain ⟨i, p, rfl, hp⟩ := knew k h1 hk
      obtain ⟨j, q, rfl, hq⟩ := knew k' h2 hk'
      rw [(hnewhd i p hp).1] at e1; rw [(hnewhd j q hq).1] at e2
      rw [blocks_inj hndh hp hq e1 e2]
  · intro b' hb' hd'
    exact h.wb b' hb' ((hdead' b').1 hd')
  · intro k g hk e
    have hk : k < S.nid + n := hk
    by_cases h1 : k < S.nid
    · by_cases hm : k ∈ ks
      · rw [(hdkill k h1 hm).1] at e; cases e
      · rw [(hdold k h1 hm).1] at e; exact h.wi k g h1 e
    · obtain ⟨i, p, rfl, hp⟩ := knew k h1 hk
      rw [(hnewhd i p hp).1] at e
      rcases (hnewblk _ (blocks_mem hp e)).2 with n2 | n2
      · exact hres0 g (List.mem_cons_of_mem _ n2)
      · exact .inr (Nat.le_trans h.fr.size n2)
  where
  pack_tys_un : ∀ {t : Ty} {fs : List Dat} {y x : t.D}, t.isSt = true → pack t fs = some y → (unpack t x).map (·.t) = tysOf t
    | .unit, [], _, _, _, _ => rfl
    | .pair a b, d :: r, y, x, _, h => by
      simp only [pack] at h
      split at h
      · rename_i p q hp hq
        simp [unpack, tysOf, pack_tys_un (zeros_rep.pack_st hq) hq]
      · cases h
    | .pair _ _, [], _, _, _, h => by simp [pack] at h
    | .unit, _ :: _, _, _, _, h => by simp [pack] at h
    | .int _, _, _, _, h, _ => by simp [Ty.isSt] at h
    | .bool, _, _, _, h, _ => by simp [Ty.isSt] at h
    | .str, _, _, _, h, _ => by simp [Ty.isSt] at h
    | .err, _, _, _, h, _ => by simp [Ty.isSt] at h
    | .ptr, _, _, _, h, _ => by simp [Ty.isSt] at h
    | .slice _ _, _, _, _, h, _ => by simp [Ty.isSt] at h

theorem fs_kill (k : Keeps X.R X'.R w w') : ∀ {fs : List Dat} {cs : List Value}, FsRep X S w fs cs → FsRep X' S' w' (fs.map fun d => ⟨d.t, d.x, .ro⟩) cs
  | [], _, h => h
  | _ :: _, _, h => by
    obtain ⟨c1, c2, rfl, h1, h2⟩ := h
    exact ⟨c1, c2, rfl, ⟨h1.1.keeps k, trivial⟩, fs_kill k h2⟩

/-- A variable whose slices are given up: its cells stand, its arrays are nobody's any more. -/
theorem Sim.killCall (h : Sim C E S X a w) {b T : Nat} {fs : List Dat} {ow : List Bool} {ks : List Nat} {R' : Nat → Nat → Prop}
    (hb : b < S.nb) (hbx : S.box b = .fld T fs) (hks : tipIds S ow fs = some ks)
    (A : After X.R w (X.β b :: blocksOf (hsOf X ow fs)) R' w' []) (hst : w'.heap[X.β b]? = w.heap[X.β b]? ∧ ∀ o, ¬ R' (X.β b) o) :
    ∃ X', X'.R = R' ∧ Sim C E { S with boxes := (b, .fld T (fs.map fun d => ⟨d.t, d.x, .ro⟩)) :: S.boxes, vers := killVers ow fs ++ S.vers } X' a w' ∧
      Le S { S with boxes := (b, .fld T (fs.map fun d => ⟨d.t, d.x, .ro⟩)) :: S.boxes, vers := killVers ow fs ++ S.vers } X X' w w' := by
  have hb0 := h.bx b hb
  rw [hbx] at hb0
  obtain ⟨t0, cs, q1, q2, q3, q4, q5, q6, q7⟩ := hb0
  obtain ⟨i1, i2, i3, i4, i5⟩ := hs_ids h q4 hks
  have hdead : S.box b ≠ .dead := by rw [hbx]; exact fun e => (nomatch e)
  let X' : Ctx := { R := R', β := X.β, hd := fun k => if k ∈ ks then .slice none 0 0 else X.hd k, inf := fun k => if k ∈ ks then (0, 0, 0) else X.inf k }
  let S' : AS := { S with boxes := (b, .fld T (fs.map fun d => ⟨d.t, d.x, .ro⟩)) :: S.boxes, vers := killVers ow fs ++ S.vers }
  have ver' : ∀ k, S'.ver k = if k ∈ ks then S.ver k + 1 else S.ver k := by
    intro k
    show (look (killVers ow fs ++ S.vers) k).getD 0 = _
    rw [look_app, look_kill k hks]
    by_cases h2 : k ∈ ks
    · rw [if_pos h2, if_pos h2]; rfl
    · rw [if_neg h2, if_neg h2]; rfl
  have box' : ∀ b', S'.box b' = if b = b' then .fld T (fs.map fun d => ⟨d.t, d.x, .ro⟩) else S.box b' := by
    intro b'
    show (look ((b, _) :: S.boxes) b').getD .dead = _
    rw [look_cons]
    split <;> rfl
  have L : Le S S' X X' w w' := by
    refine ⟨A.kp, Nat.le_refl _, fun b' hb' => ⟨?_, rfl⟩, Nat.le_refl _, fun k hk => ?_⟩
    · rw [box']
      split
      · rename_i e; subst e; rw [hbx]; rfl
      · rfl
    · rw [ver']
      by_cases hm : k ∈ ks
      · rw [if_pos hm]; exact ⟨Nat.le_succ _, fun e => by omega⟩
      · rw [if_neg hm]
        exact ⟨Nat.le_refl _, fun _ => ⟨by simp [X', hm], by simp [X', hm]⟩⟩
  have hdold : ∀ k, k ∉ ks → X'.hd k = X.hd k ∧ X'.inf k = X.inf k := fun k hm => ⟨by simp [X', hm], by simp [X', hm]⟩
  have hdkill : ∀ k, k ∈ ks → X'.hd k = .slice none 0 0 ∧ X'.inf k = (0, 0, 0) := fun k hm => ⟨by simp [X', hm], by simp [X', hm]⟩
  have hres0 : ∀ g ∈ X.β b :: blocksOf (hsOf X ow fs), E.W g ∨ E.w0.heap.size ≤ g := by
    intro g hg
    rcases List.mem_cons.1 hg with rfl | hg
    · exact h.wb b hb hdead
    · obtain ⟨k, m1, m2⟩ := i2 g hg
      exact h.wi k g (i5 k m1) m2
  have hoth : ∀ g, g < w.heap.size → g ∉ blocksOf (hsOf X ow fs) → w'.heap[g]? = w.heap[g]? := fun g hg h2 => by
    by_cases e : g = X.β b
    · subst e; exact hst.1
    · exact A.block g hg (fun hm => by
        rcases List.mem_cons.1 hm with hm | hm
        · exact e hm
        · exact h2 hm)
  have hRoth : ∀ g o, g < w.heap.size → g ≠ X.β b → g ∉ blocksOf (hsOf X ow fs) → R' g o → X.R g o := fun g o hg h1 h2 r => by
    rcases A.new g o r with h3 | h3 | h3
    · exact h3
    · omega
    · rcases List.mem_cons.1 h3 with h3 | h3
      · exact absurd h3 h1
      · exact absurd h3 h2
  have blk_not_box : ∀ b', b' < S.nb → S.box b' ≠ .dead → X.β b' ∉ blocksOf (hsOf X ow fs) := by
    intro b' hb' hd' hm
    obtain ⟨k, m1, m2⟩ := i2 _ hm
    exact h.ib k b' (i5 k m1) hb' hd' m2
  have hdead' : ∀ b', S'.box b' ≠ .dead ↔ S.box b' ≠ .dead := by
    intro b'
    rw [box']
    split
    · rename_i e; subst e; exact ⟨fun _ => hdead, fun _ => fun e => (nomatch e)⟩
    · exact Iff.rfl
  refine ⟨X', rfl, { dfr := h.dfr, sz := h.sz, tm := fun d => (h.tm d).le L, bx := ?_, idk := ?_, bd := ?_, ib := ?_, ii := ?_, wb := ?_, wi := ?_, ent := h.ent.le L, ck := h.ck.trans L.kp, fr := grow_frame h.fr A hres0 }, L⟩
  · intro b' hb'
    show BoxRep C X' S' w' b' (S'.box b')
    rw [box']
    split
    · rename_i e; subst e
      refine ⟨t0, cs, q1, q2, ?_, fs_kill A.kp q4, ?_, hst.2, q7⟩
      · rw [← q3, List.map_map]; rfl
      · rw [hst.1]; exact q5
    · rename_i e
      by_cases hd' : S.box b' = .dead
      · rw [hd']; trivial
      · have hl := box_lt (h.bx b' hb') hd'
        have hne : X.β b' ≠ X.β b := fun e2 => e (h.bd b b' hb hb' hdead hd' e2.symm)
        exact (h.bx b' hb').keep L (hoth _ hl (blk_not_box b' hb' hd')) rfl (fun o r => hRoth _ o hl hne (blk_not_box b' hb' hd') r)
  · intro k hk
    have hk : k < S.nid := hk
    by_cases hm : k ∈ ks
    · obtain ⟨g1, g2⟩ := hdkill k hm
      refine ⟨[], ?_, fun g hg => ?_⟩
      · rw [g1, g2]; exact World.ownsRow_nil w' 0 0 0
      · rw [g1] at hg; cases hg
    · obtain ⟨g1, g2⟩ := hdold k hm
      refine (h.idk k hk).keep g1 g2 fun g hg => ?_
      have hl := id_lt (h.idk k hk) hg
      have hnb : g ≠ X.β b := fun e => h.ib k b hk hb hdead (e ▸ hg)
      have hni : g ∉ blocksOf (hsOf X ow fs) := fun hmm => by
        obtain ⟨k', m1, m2⟩ := i2 g hmm
        exact hm ((h.ii k k' g hk (i5 k' m1) hg m2) ▸ m1)
      exact ⟨hoth g hl hni, fun o => ⟨fun r => hRoth g o hl hnb hni r, fun r => A.kp.sub g o r⟩⟩
  · intro b1 b2 h1 h2 d1 d2 e
    exact h.bd b1 b2 h1 h2 ((hdead' b1).1 d1) ((hdead' b2).1 d2) e
  · intro k b' hk hb' hd' e
    have hk : k < S.nid := hk
    by_cases hm : k ∈ ks
    · rw [(hdkill k hm).1] at e; cases e
    · rw [(hdold k hm).1] at e; exact h.ib k b' hk hb' ((hdead' b').1 hd') e
  · intro k k' g hk hk' e1 e2
    have hk : k < S.nid := hk
    have hk' : k' < S.nid := hk'
    by_cases hm : k ∈ ks
    · rw [(hdkill k hm).1] at e1; cases e1
    · by_cases hm' : k' ∈ ks
      · rw [(hdkill k' hm').1] at e2; cases e2
      · rw [(hdold k hm).1] at e1; rw [(hdold k' hm').1] at e2
        exact h.ii k k' g hk hk' e1 e2
  · intro b' hb' hd'
    exact h.wb b' hb' ((hdead' b').1 hd')
  · intro k g hk e
    have hk : k < S.nid := hk
    by_cases hm : k ∈ ks
    · rw [(hdkill k hm).1] at e; cases e
    · rw [(hdold k hm).1] at e; exact h.wi k g hk e

end
end Go.Proofs.YtmgeeanbecmkbaaGreatDoor.Den
