/- DenZ: slices that are made and appended to. -/
import Derived.Test.YtmgeeanbecmkbaaGreatDoorDenY
namespace Go.Proofs.YtmgeeanbecmkbaaGreatDoor.Den
open Go
set_option linter.unusedVariables false

section
variable {P : Program} {C : Cfg} {E : Entry C} {S S' : AS} {X X' : Ctx} {a : Act} {w w' : World}

theorem ArrRep.size {R : Nat → Nat → Prop} {t : Ty} : ∀ {xs : List t.D} {cs : List Value}, ArrRep R w t xs cs → cs.length = xs.length * t.size
  | [], _, h => by rw [show _ = [] from h]; simp
  | _ :: r, _, h => by
    obtain ⟨c1, c2, rfl, h1, h2⟩ := h
    simp [h1.size, ArrRep.size h2, Nat.add_mul]; omega

theorem ArrRep.one {R : Nat → Nat → Prop} {t : Ty} : ∀ {xs : List t.D} {cs : List Value}, ArrRep R w t xs cs → ∀ u ∈ cs, u.oneCell' = true
  | [], _, h, u, hu => by rw [show _ = [] from h] at hu; simp at hu
  | _ :: r, _, h, u, hu => by
    obtain ⟨c1, c2, rfl, h1, h2⟩ := h
    rcases List.mem_append.1 hu with h | h
    · exact h1.one u h
    · exact ArrRep.one h2 u h

theorem ArrRep.append {R : Nat → Nat → Prop} {t : Ty} : ∀ {xs ys : List t.D} {cs ds : List Value}, ArrRep R w t xs cs → ArrRep R w t ys ds → ArrRep R w t (xs ++ ys) (cs ++ ds)
  | [], ys, _, ds, h, h' => by rw [show _ = [] from h]; exact h'
  | _ :: r, ys, _, ds, h, h' => by
    obtain ⟨c1, c2, rfl, h1, h2⟩ := h
    exact ⟨c1, c2 ++ ds, by simp, h1, ArrRep.append h2 h'⟩

theorem arr_cells {R : Nat → Nat → Prop} {t : Ty} {g : Nat} : ∀ (ys : List t.D) (o : Nat), (∀ (i : Nat) (h : i < ys.length), ∃ c2, Reads R w t ys[i] c2 ∧ ∀ j v, c2[j]? = some v → w.cell? ⟨g, o + (i * t.size + j), none⟩ = some v) →
    ∃ news, ArrRep R w t ys news ∧ ∀ j v, news[j]? = some v → w.cell? ⟨g, o + j, none⟩ = some v
  | [], o, _ => ⟨[], rfl, fun j v h => by simp at h⟩
  | y :: r, o, h => by
    obtain ⟨c1, h1, h2⟩ := h 0 (by simp)
    obtain ⟨news, h3, h4⟩ := arr_cells r (o + t.size) (fun i hi => by
      obtain ⟨c2, q1, q2⟩ := h (i + 1) (by simpa using hi)
      refine ⟨c2, q1, fun j v hj => ?_⟩
      have := q2 j v hj
      rw [Nat.add_mul, Nat.one_mul] at this
      have e : o + t.size + (i * t.size + j) = o + (i * t.size + t.size + j) := by omega
      rw [e]; exact this)
    refine ⟨c1 ++ news, ⟨c1, news, rfl, h1, h3⟩, fun j v hj => ?_⟩
    have hs := h1.size
    rcases Nat.lt_or_ge j c1.length with hl | hl
    · rw [List.getElem?_append_left hl] at hj
      have := h2 j v hj
      simpa using this
    · rw [List.getElem?_append_right hl] at hj
      have := h4 _ v hj
      have e : o + t.size + (j - c1.length) = o + j := by omega
      rw [e] at this; exact this

theorem arr_reads {R : Nat → Nat → Prop} {t : Ty} {g : Nat} : ∀ {ys : List t.D} {cs : List Value} {i : Nat} (h : i < ys.length), ArrRep R w t ys cs → ∃ c2, Reads R w t ys[i] c2 ∧ ∀ j v, c2[j]? = some v → cs[i * t.size + j]? = some v ∧ i * t.size + j < cs.length := by
  intro ys cs i h hr
  obtain ⟨c1, c2, c3, rfl, h1, h2⟩ := hr.at_ (List.getElem?_eq_getElem h)
  refine ⟨c2, h2, fun j v hj => ?_⟩
  have := getElem?_mid c1 c2 c3 j v hj
  rw [h1] at this
  refine ⟨this, ?_⟩
  rcases Nat.lt_or_ge (i * t.size + j) (c1 ++ (c2 ++ c3)).length with h | h
  · exact h
  · rw [List.getElem?_eq_none h] at this; cases this

/-- A row of the call's own, read as a slice. -/
theorem reads_own {R : Nat → Nat → Prop} {e : TypeId} {t : Ty} {zs : List t.D} {cs : List Value} {v : Value} (hr : ArrRep R w t zs cs) (ho : w.ownsRow 0 e t.size v zs.length cs) (hR : ∀ g, v.ownBlock = some g → ∀ o, o < zs.length * t.size → R g o) :
    Reads R w (.slice e t) zs [v] := by
  have hsz := hr.size
  rcases ho.2 with ⟨rfl, hn⟩ | ⟨g, cap, cur, rfl, _, h4, h5, h6, h7, h8⟩
  · refine ⟨none, 0, by rw [hn], by omega, fun i hi => by omega⟩
  · refine ⟨some ⟨g, 0, none⟩, cap, rfl, h5, fun i hi => ?_⟩
    obtain ⟨c2, q1, q2⟩ := arr_reads (g := g) hi hr
    refine ⟨g, 0, c2, rfl, q1, fun j u hj => ?_⟩
    obtain ⟨r1, r2⟩ := q2 j u hj
    have := ho.cells (g := g) rfl _ _ r1
    rw [add_eq] at this
    exact ⟨this, hR g rfl _ (by omega)⟩

theorem own_arr {R : Nat → Nat → Prop} {e : TypeId} {t : Ty} {zs : List t.D} {cs : List Value} {v : Value} (hr : Reads R w (.slice e t) zs [v]) (ho : w.ownsRow 0 e t.size v zs.length cs) : ArrRep R w t zs cs := by
  obtain ⟨A, c, he, hl, hi⟩ := hr
  injection he with he
  rcases ho.2 with ⟨h1, hn⟩ | ⟨g, cap, cur, h1, _, h4, h5, h6, h7, h8⟩
  · have : zs = [] := List.eq_nil_of_length_eq_zero hn
    subst this
    have := ho.1
    simp at this
    exact this
  · rw [h1] at he
    injection he with hA _ _
    obtain ⟨news, q1, q2⟩ := arr_cells (R := R) (g := g) zs 0 (fun i hh => by
      obtain ⟨g', o', c2, p1, p2, p3⟩ := hi i hh
      rw [← hA] at p1; injection p1 with p1; injection p1 with p4 p5; subst p4 p5
      exact ⟨c2, p2, fun j v hj => (p3 j v hj).1⟩)
    have : news = cs := by
      apply List.ext_getElem?
      intro j
      rcases Nat.lt_or_ge j news.length with hj | hj
      · have e1 : news[j]? = some news[j] := List.getElem?_eq_getElem hj
        have e2 := q2 j _ e1
        have hj' : j < cs.length := by rw [ho.1]; rw [q1.size] at hj; exact hj
        have e3 : cs[j]? = some cs[j] := List.getElem?_eq_getElem hj'
        have e4 := ho.cells (g := g) (by rw [h1]; rfl) j _ e3
        rw [add_eq] at e4
        rw [e2] at e4
        rw [e1, e3, e4]
      · rw [List.getElem?_eq_none hj, List.getElem?_eq_none (by rw [ho.1]; rw [q1.size] at hj; exact hj)]
    rw [← this]; exact q1

def Ctx.withId (X : Ctx) (k : Nat) (v : Value) (e : TypeId) (sz n : Nat) : Ctx :=
  { X with R := fun g o => X.R g o ∨ (v.ownBlock = some g ∧ o < n * sz), hd := fun i => if i = k then v else X.hd i, inf := fun i => if i = k then (e, sz, n) else X.inf i }

theorem ver_cons (S : AS) (q v n k : Nat) : AS.ver { S with vers := (q, v) :: S.vers, nid := n } k = if q = k then v else S.ver k := by
  unfold AS.ver
  rw [look_cons]
  split <;> rfl

/-- An array of the call's own that is new, or has grown. -/
theorem Sim.setId (h : Sim C E S X a w) {q ver nid' : Nat} {v' : Value} {e : TypeId} {sz n : Nat} {cs : List Value} {row : Option Nat}
    (hq : (q < S.nid ∧ nid' = S.nid ∧ S.ver q < ver) ∨ (q = S.nid ∧ nid' = S.nid + 1))
    (hg : w.grownBy w' row) (hrow : ∀ g, row = some g → q < S.nid ∧ (X.hd q).ownBlock = some g ∧ v'.ownBlock = some g ∧ (X.inf q).2.2 * (X.inf q).2.1 ≤ n * sz)
    (hblk : v'.ownBlock = none ∨ v'.ownBlock = some w.heap.size ∨ (q < S.nid ∧ v'.ownBlock = (X.hd q).ownBlock ∧ (X.inf q).2.2 * (X.inf q).2.1 ≤ n * sz))
    (hown : w'.ownsRow 0 e sz v' n cs) (hcell : ∀ g, row = some g → ∀ o, X.R g o → w'.cell? ⟨g, o, none⟩ = w.cell? ⟨g, o, none⟩) :
    Sim C E { S with vers := (q, ver) :: S.vers, nid := nid' } (X.withId q v' e sz n) a w' ∧ Le S { S with vers := (q, ver) :: S.vers, nid := nid' } X (X.withId q v' e sz n) w w' := by
  have hR : ∀ g o, X.R g o → (X.withId q v' e sz n).R g o := fun g o r => .inl r
  have old : ∀ g, g < w.heap.size → (∀ g', row = some g' → g ≠ g') → w'.heap[g]? = w.heap[g]? := fun g hgl hne => hg.block g hgl (fun e => hne g e.symm rfl)
  have L : Le S { S with vers := (q, ver) :: S.vers, nid := nid' } X (X.withId q v' e sz n) w w' := by
    refine ⟨⟨hR, fun g o r => ?_⟩, Nat.le_refl _, fun b hb => ⟨rfl, rfl⟩, by rcases hq with hq | hq <;> simp only <;> omega, fun k hk => ?_⟩
    · by_cases e1 : row = some g
      · exact hcell g e1 o r
      · simp [World.cell?, hg.block g (h.fr.lt g o r) (fun e => e1 e.symm)]
    · rw [ver_cons]
      by_cases ek : q = k
      · subst ek
        rw [if_pos rfl]
        rcases hq with ⟨_, _, h3⟩ | ⟨h3, _⟩
        · exact ⟨Nat.le_of_lt h3, fun e => by omega⟩
        · omega
      · rw [if_neg ek]
        exact ⟨Nat.le_refl _, fun _ => ⟨by simp only [Ctx.withId]; rw [if_neg (fun e => ek e.symm)], by simp only [Ctx.withId]; rw [if_neg (fun e => ek e.symm)]⟩⟩
  have hdq : (X.withId q v' e sz n).hd q = v' := by simp [Ctx.withId]
  have hdo : ∀ k, k ≠ q → (X.withId q v' e sz n).hd k = X.hd k := fun k hk => by simp [Ctx.withId, hk]
  have info : ∀ k, k ≠ q → (X.withId q v' e sz n).inf k = X.inf k := fun k hk => by simp [Ctx.withId, hk]
  have lts : ∀ b, b < S.nb → S.box b ≠ .dead → X.β b < w.heap.size := fun b hb hd => box_lt (h.bx b hb) hd
  have vne : ∀ b, b < S.nb → S.box b ≠ .dead → v'.ownBlock ≠ some (X.β b) := by
    intro b hb hd e1
    rcases hblk with h1 | h1 | ⟨h0, h1, _⟩
    · rw [h1] at e1; cases e1
    · rw [h1] at e1; injection e1 with e1; have := lts b hb hd; omega
    · rw [h1] at e1; exact h.ib q b h0 hb hd e1
  have klt : ∀ k, k < nid' → k ≠ q → k < S.nid := by intro k hk hne; rcases hq with hq | hq <;> omega
  have idne : ∀ k g, k < S.nid → k ≠ q → (X.hd k).ownBlock = some g → v'.ownBlock ≠ some g := by
    intro k g hk hne hkg e1
    rcases hblk with h1 | h1 | ⟨h0, h1, _⟩
    · rw [h1] at e1; cases e1
    · rw [h1] at e1; injection e1 with e1; have := id_lt (h.idk k hk) hkg; omega
    · rw [h1] at e1; exact hne (h.ii k q g hk h0 hkg e1)
  refine ⟨{ dfr := h.dfr, sz := h.sz, tm := fun d => (h.tm d).le L, bx := ?_, idk := ?_, bd := h.bd, ib := ?_, ii := ?_, wb := h.wb, wi := ?_, ent := h.ent.le L, ck := h.ck.trans L.kp, fr := ?_ }, L⟩
  · intro b hb
    by_cases hd : S.box b = .dead
    · show BoxRep C _ _ w' b (S.box b)
      rw [hd]; trivial
    · refine (h.bx b hb).keep L (old _ (lts b hb hd) fun g' e1 e2 => ?_) rfl (fun o r => ?_)
      · obtain ⟨r1, r2, _⟩ := hrow g' e1
        exact h.ib q b r1 hb hd (e2 ▸ r2)
      · rcases r with r | ⟨r, _⟩
        · exact r
        · exact absurd r (vne b hb hd)
  · intro k hk
    by_cases ek : k = q
    · subst ek
      refine ⟨cs, by rw [hdq]; simp only [Ctx.withId, if_true]; exact hown, fun g hg2 o => ?_⟩
      rw [hdq] at hg2
      simp only [Ctx.withId, if_true]
      constructor
      · rintro (r | ⟨_, r⟩)
        · rcases hblk with h1 | h1 | ⟨h0, h1, h2⟩
          · rw [h1] at hg2; cases hg2
          · rw [h1] at hg2; injection hg2 with hg2; subst hg2
            exact absurd (h.fr.lt _ _ r) (Nat.lt_irrefl _)
          · rw [h1] at hg2
            obtain ⟨_, _, hR2⟩ := h.idk k h0
            have := (hR2 g hg2 o).1 r
            omega
        · exact r
      · intro r; exact .inr ⟨hg2, r⟩
    · have hk' := klt k hk ek
      refine (h.idk k hk').keep (hdo k ek) (info k ek) fun g hg2 => ⟨old g (id_lt (h.idk k hk') hg2) fun g' e1 e2 => ?_, fun o => ?_⟩
      · obtain ⟨r1, r2, _⟩ := hrow g' e1
        exact ek (h.ii k q g' hk' r1 (e2 ▸ hg2) r2)
      · constructor
        · rintro (r | ⟨r, _⟩)
          · exact r
          · exact absurd r (idne k g hk' ek hg2)
        · exact fun r => .inl r
  · intro k b hk hb hd
    by_cases ek : k = q
    · subst ek; rw [hdq]; exact vne b hb hd
    · rw [hdo k ek]; exact h.ib k b (klt k hk ek) hb hd
  · intro k k' g hk hk' e1 e2
    by_cases ek : k = q <;> by_cases ek' : k' = q
    · rw [ek, ek']
    · subst ek; rw [hdq] at e1; rw [hdo k' ek'] at e2
      exact absurd e1 (idne k' g (klt k' hk' ek') ek' e2)
    · subst ek'; rw [hdq] at e2; rw [hdo k ek] at e1
      exact absurd e2 (idne k g (klt k hk ek) ek e1)
    · rw [hdo k ek] at e1; rw [hdo k' ek'] at e2
      exact h.ii k k' g (klt k hk ek) (klt k' hk' ek') e1 e2
  · intro k g hk hg2
    by_cases ek : k = q
    · subst ek; rw [hdq] at hg2
      rcases hblk with h1 | h1 | ⟨h0, h1, _⟩
      · rw [h1] at hg2; cases hg2
      · rw [h1] at hg2; injection hg2 with hg2; subst hg2; exact .inr h.fr.size
      · rw [h1] at hg2; exact h.wi k g h0 hg2
    · rw [hdo k ek] at hg2; exact h.wi k g (klt k hk ek) hg2
  · have hnew : ∀ g, v'.ownBlock = some g → E.W g ∨ E.w0.heap.size ≤ g := by
      intro g hg2
      rcases hblk with h1 | h1 | ⟨h0, h1, _⟩
      · rw [h1] at hg2; cases hg2
      · rw [h1] at hg2; injection hg2 with hg2; subst hg2; exact .inr h.fr.size
      · rw [h1] at hg2; exact h.wi q g h0 hg2
    refine ⟨hg.os.trans h.fr.os, hg.tape.trans h.fr.tape, hg.output.trans h.fr.output, Nat.le_trans h.fr.size hg.size, fun g hgl hW => (old g (Nat.lt_of_lt_of_le hgl h.fr.size) fun g' e1 e2 => ?_).trans (h.fr.block g hgl hW), fun g o r => .inl (h.fr.sub g o r), ?_, ?_⟩
    · obtain ⟨r1, r2, _⟩ := hrow g' e1
      rcases h.wi q g' r1 r2 with h2 | h2
      · exact hW (e2 ▸ h2)
      · omega
    · rintro g o (r | ⟨r, _⟩)
      · exact h.fr.new g o r
      · rcases hnew g r with h1 | h1
        · exact .inr (.inr h1)
        · exact .inr (.inl h1)
    · rintro g o (r | ⟨r, _⟩)
      · exact Nat.lt_of_lt_of_le (h.fr.lt g o r) hg.size
      · exact (hown.lt g r).2

def Ctx.withR (X : Ctx) (g n : Nat) : Ctx := { X with R := fun g' o => X.R g' o ∨ (g' = g ∧ o < n) }

/-- A new block whose first cells nobody writes. -/
theorem Sim.allocR (h : Sim C E S X a w) (o : Obj) (n : Nat) : Sim C E S (X.withR w.heap.size n) a (w.alloc o) := by
  have L : Le S S X (X.withR w.heap.size n) w (w.alloc o) :=
    ⟨⟨fun g o r => .inl r, fun g o r => by simp [World.cell?, heap_old (h.fr.lt _ _ r)]⟩, Nat.le_refl _, fun _ _ => ⟨rfl, rfl⟩, Nat.le_refl _, fun _ _ => ⟨Nat.le_refl _, fun _ => ⟨rfl, rfl⟩⟩⟩
  refine { dfr := h.dfr, sz := h.sz, tm := fun d => (h.tm d).le L, bx := ?_, idk := ?_, bd := h.bd, ib := h.ib, ii := h.ii, wb := h.wb, wi := h.wi, ent := h.ent.le L, ck := h.ck.trans L.kp, fr := ?_ }
  · intro b hb
    by_cases hd : S.box b = .dead
    · rw [hd]; trivial
    · have hl := box_lt (h.bx b hb) hd
      refine (h.bx b hb).keep L (heap_old hl) rfl (fun o r => ?_)
      rcases r with r | ⟨r, _⟩
      · exact r
      · omega
  · intro k hk
    refine (h.idk k hk).keep rfl rfl fun g hg => ⟨heap_old (id_lt (h.idk k hk) hg), fun o => ?_⟩
    have hl := id_lt (h.idk k hk) hg
    constructor
    · rintro (r | ⟨r, _⟩)
      · exact r
      · omega
    · exact fun r => .inl r
  · have f := alloc_frame h.fr o
    refine ⟨f.os, f.tape, f.output, f.size, f.block, fun g o r => .inl (f.sub g o r), ?_, ?_⟩
    · rintro g o (r | ⟨rfl, _⟩)
      · exact f.new g o r
      · exact .inr (.inl h.fr.size)
    · rintro g o (r | ⟨rfl, _⟩)
      · exact f.lt g o r
      · simp

end
end Go.Proofs.YtmgeeanbecmkbaaGreatDoor.Den
