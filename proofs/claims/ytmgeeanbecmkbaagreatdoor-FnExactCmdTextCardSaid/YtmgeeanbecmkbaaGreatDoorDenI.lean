/- DenI: a loop's head in its fixed form. -/
import Derived.Test.YtmgeeanbecmkbaaGreatDoorDenM2
namespace Go.Proofs.YtmgeeanbecmkbaaGreatDoor.Den
open Go
set_option linter.unusedVariables false

section
variable {P : Program} {C : Cfg} {E : Entry C} {S S' T : AS} {X X' : Ctx} {a : Act} {w w' : World}

/-- The arrays that have been given new numbers. -/
structure CInv (S : AS) (X : Ctx) (w : World) (m : Nat) (seen : List Nat) (hs : Hds) : Prop where
  len : hs.length = m
  ok : hdOK X.R w hs
  lt : ∀ q ∈ seen, q < S.nid
  nd : (blocksOf hs).Nodup
  org : ∀ g ∈ blocksOf hs, ∃ q ∈ seen, (X.hd q).ownBlock = some g

/-- The new names are those of the list. -/
def Good (X : Ctx) (hs : Hds) (X' : Ctx) (S' : AS) : Prop := X'.R = X.R ∧ ∀ i p, hs[i]? = some p → X'.hd i = p.1 ∧ X'.inf i = p.2 ∧ i < S'.nid ∧ S'.ver i = 0

theorem Good.pre {hs t : Hds} (h : Good X (hs ++ t) X' S') : Good X hs X' S' := ⟨h.1, fun i p hp => h.2 i p (by
  have hi : i < hs.length := by
    rcases Nat.lt_or_ge i hs.length with h | h
    · exact h
    · rw [List.getElem?_eq_none h] at hp; cases hp
  rw [List.getElem?_append_left hi]; exact hp)⟩

theorem tag_ro {d : Dat} {cs : List Value} (h : DatRep X S w d cs) (hR : X'.R = X.R) : DatRep X' S' w ⟨d.t, d.x, .ro⟩ cs := ⟨by rw [hR]; exact h.1, trivial⟩

theorem canonTag_rep (hs : Sim C E S X a w) {d : Dat} {cs : List Value} (hd : DatRep X S w d cs) {m : Nat} {seen : List Nat} {hs0 : Hds} (I : CInv S X w m seen hs0) :
    ∃ t, CInv S X w (canonTag S d.t d.tag m seen).2.1 (canonTag S d.t d.tag m seen).2.2 (hs0 ++ t) ∧
      ∀ X' S', Good X (hs0 ++ t) X' S' → DatRep X' S' w ⟨d.t, d.x, (canonTag S d.t d.tag m seen).1⟩ cs := by
  obtain ⟨dt, dx, tg⟩ := d
  have ro : (canonTag S dt tg m seen) = (.ro, m, seen) → ∃ t, CInv S X w (canonTag S dt tg m seen).2.1 (canonTag S dt tg m seen).2.2 (hs0 ++ t) ∧
      ∀ X' S', Good X (hs0 ++ t) X' S' → DatRep X' S' w ⟨dt, dx, (canonTag S dt tg m seen).1⟩ cs := by
    intro e
    rw [e]
    exact ⟨[], by rw [List.append_nil]; exact I, fun X' S' g => tag_ro hd g.1⟩
  unfold canonTag at ro ⊢
  cases dt with
  | slice e u =>
    cases tg with
    | ro => exact ro rfl
    | nil =>
      dsimp only
      refine ⟨[(.slice none 0 0, e, u.size, 0)], ⟨by simp [I.len], ?_, I.lt, ?_, ?_⟩, fun X' S' g => ?_⟩
      · intro p hp
        rcases List.mem_append.1 hp with hp | hp
        · exact I.ok p hp
        · simp at hp; subst hp
          exact ⟨[], World.ownsRow_nil w 0 _ _, fun g hg => by cases hg⟩
      · have : blocksOf (hs0 ++ [(Value.slice none 0 0, e, u.size, 0)]) = blocksOf hs0 := by
          unfold blocksOf; rw [List.filterMap_append]; simp [Value.ownBlock]
        rw [this]; exact I.nd
      · have : blocksOf (hs0 ++ [(Value.slice none 0 0, e, u.size, 0)]) = blocksOf hs0 := by
          unfold blocksOf; rw [List.filterMap_append]; simp [Value.ownBlock]
        rw [this]; exact I.org
      · obtain ⟨h1, h2⟩ := hd
        have h2 : cs = [.slice none 0 0] := h2
        refine ⟨by rw [g.1]; exact h1, ?_⟩
        obtain ⟨g1, g2, g3, g4⟩ := g.2 m (.slice none 0 0, e, u.size, 0) (by rw [← I.len]; simp)
        obtain ⟨A, c, k1, k2, _⟩ := h1
        rw [h2] at k1
        injection k1 with k1
        injection k1 with _ k1 _
        refine ⟨g3, Nat.zero_le _, fun _ => ⟨by rw [g1]; exact h2, e, u, rfl, ?_⟩⟩
        rw [g2]
        show (e, u.size, 0) = (e, u.size, dx.length)
        rw [← k1]
    | own q v =>
      dsimp only
      cases hb : tip S (.own q v) && !(seen.any (Nat.beq q)) with
      | false => dsimp only at ro; rw [hb] at ro; exact ro rfl
      | true =>
        simp only [cond_true]
        rw [Bool.and_eq_true, Bool.not_eq_true'] at hb
        obtain ⟨hb1, hb2⟩ := hb
        have hns : q ∉ seen := fun hm => by
          have : seen.any (Nat.beq q) = true := List.any_eq_true.2 ⟨q, hm, Nat.beq_refl q⟩
          rw [this] at hb2; cases hb2
        have hq : q < S.nid ∧ S.ver q = v := by
          unfold tip at hb1
          rw [Bool.and_eq_true] at hb1
          exact ⟨by have := hb1.1; simp [Nat.blt] at this; omega, Nat.eq_of_beq_eq_true hb1.2⟩
        obtain ⟨cells, o1, o2⟩ := hs.idk q hq.1
        have hbl : ∀ g, (X.hd q).ownBlock = some g → g ∉ blocksOf hs0 := fun g hg hm => by
          obtain ⟨q', m1, m2⟩ := I.org g hm
          exact hns ((hs.ii q q' g hq.1 (I.lt q' m1) hg m2) ▸ m1)
        have hblk : blocksOf (hs0 ++ [(X.hd q, X.inf q)]) = blocksOf hs0 ++ (X.hd q).ownBlock.toList := by
          unfold blocksOf; rw [List.filterMap_append]
          cases h : (X.hd q).ownBlock <;> simp [h]
        refine ⟨[(X.hd q, X.inf q)], ⟨by simp [I.len], ?_, ?_, ?_, ?_⟩, fun X' S' g => ?_⟩
        · intro p hp
          rcases List.mem_append.1 hp with hp | hp
          · exact I.ok p hp
          · simp at hp; subst hp
            exact ⟨cells, o1, o2⟩
        · intro q' hq'
          rcases List.mem_cons.1 hq' with rfl | hq'
          · exact hq.1
          · exact I.lt q' hq'
        · rw [hblk]
          cases h : (X.hd q).ownBlock with
          | none => simpa using I.nd
          | some g =>
            rw [Option.toList_some]
            refine List.nodup_append.2 ⟨I.nd, by simp, fun x hx y hy e => ?_⟩
            simp at hy; subst hy; subst e
            exact hbl x h hx
        · rw [hblk]
          intro g hg
          rcases List.mem_append.1 hg with hg | hg
          · obtain ⟨q', m1, m2⟩ := I.org g hg
            exact ⟨q', List.mem_cons_of_mem _ m1, m2⟩
          · refine ⟨q, List.mem_cons_self .., ?_⟩
            cases h : (X.hd q).ownBlock with
            | none => rw [h] at hg; cases hg
            | some g' => rw [h] at hg; simp at hg; rw [hg]
        · obtain ⟨h1, h2⟩ := hd
          obtain ⟨k1, k2, k3⟩ := h2
          obtain ⟨k4, e', u', k5, k6⟩ := k3 hq.2
          injection k5 with k5 k5'
          subst k5; subst k5'
          refine ⟨by rw [g.1]; exact h1, ?_⟩
          obtain ⟨g1, g2, g3, g4⟩ := g.2 m (X.hd q, X.inf q) (by rw [← I.len]; simp)
          refine ⟨g3, Nat.zero_le _, fun _ => ⟨by rw [g1]; exact k4, e, u, rfl, ?_⟩⟩
          rw [g2]; exact k6
  | _ => exact ro rfl

theorem canonFs_rep (hs : Sim C E S X a w) : ∀ {fs : List Dat} {cs : List Value} {m : Nat} {seen : List Nat} {hs0 : Hds}, FsRep X S w fs cs → CInv S X w m seen hs0 →
    ∃ t, CInv S X w (canonFs S fs m seen).2.1 (canonFs S fs m seen).2.2 (hs0 ++ t) ∧ (canonFs S fs m seen).1.map (·.t) = fs.map (·.t) ∧
      ∀ X' S', Good X (hs0 ++ t) X' S' → FsRep X' S' w (canonFs S fs m seen).1 cs
  | [], cs, m, seen, hs0, hf, I => ⟨[], by rw [List.append_nil]; exact I, rfl, fun _ _ _ => hf⟩
  | d :: r, cs, m, seen, hs0, hf, I => by
    obtain ⟨c1, c2, rfl, h1, h2⟩ := hf
    obtain ⟨t1, I1, g1⟩ := canonTag_rep hs h1 I
    obtain ⟨t2, I2, l2, g2⟩ := canonFs_rep hs h2 I1
    rw [List.append_assoc] at I2
    refine ⟨t1 ++ t2, I2, ?_, fun X' S' g => ⟨c1, c2, rfl, ?_, ?_⟩⟩
    · show _ :: _ = _ :: _
      rw [l2]
    · rw [← List.append_assoc] at g
      exact g1 X' S' g.pre
    · rw [← List.append_assoc] at g
      exact g2 X' S' g

theorem fs_ro : ∀ {fs : List Dat} {cs : List Value}, FsRep X S w fs cs → X'.R = X.R → FsRep X' S' w (fs.map fun z => ⟨z.t, z.x, .ro⟩) cs
  | [], _, h, _ => h
  | d :: r, _, h, hR => by
    obtain ⟨c1, c2, rfl, h1, h2⟩ := h
    exact ⟨c1, c2, rfl, tag_ro h1 hR, fs_ro h2 hR⟩

/-- Variables below nb that stand: their shapes stay. -/
def SameBoxes (S : AS) (X : Ctx) (nb : Nat) (X' : Ctx) (S' : AS) : Prop := X'.β = X.β ∧ S'.nb = nb ∧ ∀ b, b < nb → b < S.nb → Sh (S'.box b) = Sh (S.box b)

theorem ref_rep {nb : Nat} {v : AV} {c : Value} (h : RepV C X S w v c) (hv : ∀ d, v ≠ .dat d) (hsv : ∀ fs, v ≠ .sv fs) (hR : X'.R = X.R) (hB : SameBoxes S X nb X' S') : RepV C X' S' w (bif okRef S nb v then v else .bot) c := by
  obtain ⟨b1, b2, b3⟩ := hB
  have lt2 : ∀ b, (Nat.blt b nb && Nat.blt b S.nb) = true → b < nb ∧ b < S.nb := fun b h => by
    rw [Bool.and_eq_true] at h
    have h1 := h.1; have h2 := h.2
    simp [Nat.blt] at h1 h2
    omega
  cases v with
  | bot => trivial
  | und => exact h
  | dat d => exact absurd rfl (hv d)
  | sv fs => exact absurd rfl (hsv fs)
  | tup l =>
    obtain ⟨vs, h1, h2⟩ := h
    exact ⟨vs, h1, by rw [hR]; exact h2⟩
  | cell t x =>
    obtain ⟨g, o, cs, h1, h2, h3⟩ := h
    exact ⟨g, o, cs, h1, by rw [hR]; exact h2, by rw [hR]; exact h3⟩
  | loc b p t =>
    cases hb : okRef S nb (.loc b p t) with
    | false => trivial
    | true =>
      obtain ⟨T, t0, o, h1, h2, h3, h4, h5⟩ := h
      obtain ⟨l1, l2⟩ := lt2 b hb
      exact ⟨T, t0, o, by rw [b2]; exact l1, (b3 b l1 l2).trans h2, h3, h4, by rw [b1]; exact h5⟩
  | marr b =>
    cases hb : okRef S nb (.marr b) with
    | false => trivial
    | true =>
      obtain ⟨e, t, n, h1, h2, h3⟩ := h
      obtain ⟨l1, l2⟩ := lt2 b hb
      exact ⟨e, t, n, by rw [b2]; exact l1, (b3 b l1 l2).trans h2, by rw [b1]; exact h3⟩
  | eadr b i p t =>
    cases hb : okRef S nb (.eadr b i p t) with
    | false => trivial
    | true =>
      obtain ⟨e, t0, n, o, h1, h2, h3, h4, h5⟩ := h
      obtain ⟨l1, l2⟩ := lt2 b hb
      exact ⟨e, t0, n, o, by rw [b2]; exact l1, (b3 b l1 l2).trans h2, h3, h4, by rw [b1]; exact h5⟩
  | fn f => exact h

theorem canonVals_rep (hs : Sim C E S X a w) {nb : Nat} : ∀ {keep : List Nat} {m : Nat} {seen : List Nat} {hs0 : Hds}, CInv S X w m seen hs0 →
    ∃ t, CInv S X w (canonVals S nb keep m seen).2.1 (canonVals S nb keep m seen).2.2 (hs0 ++ t) ∧
      ∀ X' S', Good X (hs0 ++ t) X' S' → SameBoxes S X nb X' S' → ∀ d, RepV C X' S' w ((look (canonVals S nb keep m seen).1 d).getD .bot) (a.tmps.getD d undef)
  | [], m, seen, hs0, I => ⟨[], by rw [List.append_nil]; exact I, fun _ _ _ _ _ => trivial⟩
  | d :: r, m, seen, hs0, I => by
    unfold canonVals
    have hd := hs.tm d
    split
    · rename_i z hz
      rw [hz] at hd
      obtain ⟨cs, h1, h2⟩ := hd
      obtain ⟨t1, I1, g1⟩ := canonTag_rep hs h1 I
      obtain ⟨t2, I2, g2⟩ := canonVals_rep hs (nb := nb) (keep := r) I1
      rw [List.append_assoc] at I2
      refine ⟨t1 ++ t2, I2, fun X' S' g hB d' => ?_⟩
      rw [← List.append_assoc] at g
      dsimp only
      rw [look_cons]
      by_cases e : d = d'
      · subst e; rw [if_pos rfl]; exact ⟨cs, g1 X' S' g.pre, h2⟩
      · rw [if_neg e]; exact g2 X' S' g hB d'
    · rename_i fs hz
      rw [hz] at hd
      obtain ⟨cs, h1, h2⟩ := hd
      obtain ⟨t2, I2, g2⟩ := canonVals_rep hs (nb := nb) (keep := r) I
      refine ⟨t2, I2, fun X' S' g hB d' => ?_⟩
      dsimp only
      rw [look_cons]
      by_cases e : d = d'
      · subst e; rw [if_pos rfl]; exact ⟨cs, fs_ro h1 g.1, h2⟩
      · rw [if_neg e]; exact g2 X' S' g hB d'
    · rename_i h1 h2
      obtain ⟨t2, I2, g2⟩ := canonVals_rep hs (nb := nb) (keep := r) I
      refine ⟨t2, I2, fun X' S' g hB d' => ?_⟩
      dsimp only
      rw [look_cons]
      by_cases e : d = d'
      · subst e; rw [if_pos rfl]; exact ref_rep hd (fun z e => h1 z e) (fun fs e => h2 fs e) g.1 hB
      · rw [if_neg e]; exact g2 X' S' g hB d'

theorem canonBoxes_rep (hs : Sim C E S X a w) : ∀ {n : Nat} {m : Nat} {seen : List Nat} {hs0 : Hds}, CInv S X w m seen hs0 →
    ∃ t, CInv S X w (canonBoxes S n m seen).2.1 (canonBoxes S n m seen).2.2 (hs0 ++ t) ∧
      (∀ b, b < n → (b < S.nb → Sh ((look (canonBoxes S n m seen).1 b).getD .dead) = Sh (S.box b)) ∧ ((look (canonBoxes S n m seen).1 b).getD .dead ≠ .dead → b < S.nb ∧ S.box b ≠ .dead)) ∧
      ∀ X' S', Good X (hs0 ++ t) X' S' → X'.β = X.β → ∀ b, b < n → BoxRep C X' S' w b ((look (canonBoxes S n m seen).1 b).getD .dead)
  | 0, m, seen, hs0, I => ⟨[], by rw [List.append_nil]; exact I, fun b h => absurd h (Nat.not_lt_zero _), fun _ _ _ _ b h => absurd h (Nat.not_lt_zero _)⟩
  | n + 1, m, seen, hs0, I => by
    have blt : Nat.blt n S.nb = true → n < S.nb := fun h => by simp [Nat.blt] at h; omega
    have bnl : Nat.blt n S.nb = false → ¬ n < S.nb := fun h h2 => by
      have : Nat.blt n S.nb = true := by simp [Nat.blt]; omega
      rw [this] at h; cases h
    -- one box ahead of those below it
    have ahead : ∀ (B : Box) (m1 : Nat) (seen1 : List Nat) (t1 : Hds), CInv S X w m1 seen1 (hs0 ++ t1) → (n < S.nb → Sh B = Sh (S.box n)) → (B ≠ .dead → n < S.nb ∧ S.box n ≠ .dead) →
        (∀ X' S', Good X (hs0 ++ t1) X' S' → X'.β = X.β → BoxRep C X' S' w n B) →
        ∃ t, CInv S X w (canonBoxes S n m1 seen1).2.1 (canonBoxes S n m1 seen1).2.2 (hs0 ++ t) ∧
          (∀ b, b < n + 1 → (b < S.nb → Sh ((look ((n, B) :: (canonBoxes S n m1 seen1).1) b).getD .dead) = Sh (S.box b)) ∧ ((look ((n, B) :: (canonBoxes S n m1 seen1).1) b).getD .dead ≠ .dead → b < S.nb ∧ S.box b ≠ .dead)) ∧
          ∀ X' S', Good X (hs0 ++ t) X' S' → X'.β = X.β → ∀ b, b < n + 1 → BoxRep C X' S' w b ((look ((n, B) :: (canonBoxes S n m1 seen1).1) b).getD .dead) := by
      intro B m1 seen1 t1 I1 h1 h2 h3
      obtain ⟨t2, I2, g2, g3⟩ := canonBoxes_rep hs (n := n) I1
      rw [List.append_assoc] at I2
      refine ⟨t1 ++ t2, I2, fun b hb => ?_, fun X' S' g hβ b hb => ?_⟩
      · rw [look_cons]
        by_cases e : n = b
        · subst e; rw [if_pos rfl]; exact ⟨h1, h2⟩
        · rw [if_neg e]; exact g2 b (by omega)
      · rw [← List.append_assoc] at g
        rw [look_cons]
        by_cases e : n = b
        · subst e; rw [if_pos rfl]; exact h3 X' S' g.pre hβ
        · rw [if_neg e]; exact g3 X' S' g hβ b (by omega)
    have dead : n < S.nb ∨ ¬ n < S.nb → ¬ n < S.nb → _ := fun _ hn => ahead .dead m seen [] (by rw [List.append_nil]; exact I) (fun h => absurd h hn) (fun h => absurd rfl h) (fun _ _ _ _ => trivial)
    unfold canonBoxes
    split
    · rename_i T fs hbx
      cases hlt : Nat.blt n S.nb with
      | false => simp only [cond_false]; exact dead (Decidable.em _) (bnl hlt)
      | true =>
        simp only [cond_true]
        have hb := hs.bx n (blt hlt)
        rw [hbx] at hb
        obtain ⟨t, cs, q1, q2, q3, q4, q5, q6, q7⟩ := hb
        obtain ⟨t1, I1, l1, g1⟩ := canonFs_rep hs q4 I
        refine ahead (.fld T _) _ _ t1 I1 (fun _ => by rw [hbx]; rfl) (fun _ => ⟨blt hlt, by rw [hbx]; exact fun e => (nomatch e)⟩) fun X' S' g hβ => ?_
        exact ⟨t, cs, q1, q2, l1.trans q3, g1 X' S' g, by rw [hβ]; exact q5, (fun o => by rw [hβ, g.1]; exact q6 o), by rw [hβ]; exact q7⟩
    · rename_i T d hbx
      cases hlt : Nat.blt n S.nb with
      | false => simp only [cond_false]; exact dead (Decidable.em _) (bnl hlt)
      | true =>
        simp only [cond_true]
        have hb := hs.bx n (blt hlt)
        rw [hbx] at hb
        obtain ⟨cs, q1, q2, q4, q5, q6⟩ := hb
        obtain ⟨t1, I1, g1⟩ := canonTag_rep hs q4 I
        refine ahead (.leaf T _) _ _ t1 I1 (fun _ => by rw [hbx]; rfl) (fun _ => ⟨blt hlt, by rw [hbx]; exact fun e => (nomatch e)⟩) fun X' S' g hβ => ?_
        exact ⟨cs, q1, q2, g1 X' S' g, by rw [hβ]; exact q5, fun o => by rw [hβ, g.1]; exact q6 o⟩
    · rename_i h1 h2
      cases hlt : Nat.blt n S.nb with
      | false => simp only [cond_false]; exact dead (Decidable.em _) (bnl hlt)
      | true =>
        simp only [cond_true]
        have hb := hs.bx n (blt hlt)
        refine ahead (S.box n) m seen [] (by rw [List.append_nil]; exact I) (fun _ => rfl) (fun h => ⟨blt hlt, h⟩) fun X' S' g hβ => ?_
        cases hbx : S.box n with
        | fld T fs => exact absurd hbx (h1 T fs)
        | leaf T d => exact absurd hbx (h2 T d)
        | arr e t xs =>
          rw [hbx] at hb
          obtain ⟨cs, q1, q2, q3, q4⟩ := hb
          exact ⟨cs, q1, by rw [g.1]; exact q2, by rw [hβ]; exact q3, fun o => by rw [hβ, g.1]; exact q4 o⟩
        | dead => trivial

theorem canon_sim (hs : Sim C E S X a w) (keep : List Nat) (nb : Nat) (hnb : E.io.isSome = true → 0 < nb) : ∃ X', Sim C E (canon keep nb S) X' a w := by
  have I0 : CInv S X w 0 [] [] := ⟨rfl, fun p hp => (by cases hp), fun q hq => (by cases hq), List.nodup_nil, fun g hg => (by cases hg)⟩
  obtain ⟨t1, I1, g1⟩ := canonVals_rep hs (nb := nb) (keep := keep) I0
  obtain ⟨t2, I2, k2, g2⟩ := canonBoxes_rep hs (n := nb) I1
  rw [List.nil_append] at I1 g1 I2 g2
  obtain ⟨m, hm⟩ : ∃ m, m = (canonBoxes S nb (canonVals S nb keep 0 []).2.1 (canonVals S nb keep 0 []).2.2).2.1 := ⟨_, rfl⟩
  obtain ⟨hds, hh⟩ : ∃ hds, hds = t1 ++ t2 := ⟨_, rfl⟩
  rw [← hh] at I2 g2
  rw [← hm] at I2
  let X' : Ctx := { R := X.R, β := X.β, hd := fun k => (hds.getD k (.slice none 0 0, 0, 0, 0)).1, inf := fun k => (hds.getD k (.slice none 0 0, 0, 0, 0)).2 }
  have ver' : ∀ i, i < m → (canon keep nb S).ver i = 0 := by
    intro i hi
    show (look (freshVers 0 _) i).getD 0 = 0
    rw [← hm, look_fresh, if_pos ⟨Nat.zero_le _, by omega⟩]; rfl
  have nid' : (canon keep nb S).nid = m := by rw [hm]; rfl
  have G : Good X hds X' (canon keep nb S) := by
    refine ⟨rfl, fun i p hp => ?_⟩
    have hi : i < hds.length := by
      rcases Nat.lt_or_ge i hds.length with h | h
      · exact h
      · rw [List.getElem?_eq_none h] at hp; cases hp
    rw [I2.len] at hi
    refine ⟨?_, ?_, by rw [nid']; exact hi, ver' i hi⟩
    · simp only [X', List.getD_eq_getElem?_getD, hp, Option.getD_some]
    · simp only [X', List.getD_eq_getElem?_getD, hp, Option.getD_some]
  have get : ∀ k, k < m → ∃ p, hds[k]? = some p ∧ X'.hd k = p.1 ∧ X'.inf k = p.2 := by
    intro k hk
    rw [← I2.len] at hk
    obtain ⟨a1, a2, _⟩ := G.2 k _ (List.getElem?_eq_getElem hk)
    exact ⟨_, List.getElem?_eq_getElem hk, a1, a2⟩
  have own : ∀ k g, k < m → (X'.hd k).ownBlock = some g → ∃ q, q < S.nid ∧ (X.hd q).ownBlock = some g := by
    intro k g hk hg
    obtain ⟨p, p1, p2, _⟩ := get k hk
    rw [p2] at hg
    obtain ⟨q, m1, m2⟩ := I2.org g (blocks_mem p1 hg)
    exact ⟨q, I2.lt q m1, m2⟩
  have box' : ∀ b, (canon keep nb S).box b = (look (canonBoxes S nb (canonVals S nb keep 0 []).2.1 (canonVals S nb keep 0 []).2.2).1 b).getD .dead := fun _ => rfl
  refine ⟨X', { dfr := hs.dfr, sz := hs.sz, tm := ?_, bx := ?_, idk := ?_, bd := ?_, ib := ?_, ii := ?_, wb := ?_, wi := ?_, fr := hs.fr, ent := ?_, ck := hs.ck }⟩
  · intro d
    exact g1 X' (canon keep nb S) (by rw [hh] at G; exact G.pre) ⟨rfl, rfl, fun b h1 h2 => (k2 b h1).1 h2⟩ d
  · intro b hb
    exact g2 X' (canon keep nb S) G rfl b hb
  · intro k hk
    rw [nid'] at hk
    obtain ⟨p, p1, p2, p3⟩ := get k hk
    obtain ⟨cells, z1, z2⟩ := I2.ok p (List.mem_of_getElem? p1)
    exact ⟨cells, by rw [p2, p3]; exact z1, by rw [p2, p3]; exact z2⟩
  · intro b b' h1 h2 d1 d2 e
    obtain ⟨u1, u2⟩ := (k2 b h1).2 d1
    obtain ⟨u3, u4⟩ := (k2 b' h2).2 d2
    exact hs.bd b b' u1 u3 u2 u4 e
  · intro k b hk hb hd e
    rw [nid'] at hk
    obtain ⟨q, q1, q2⟩ := own k _ hk e
    obtain ⟨u1, u2⟩ := (k2 b hb).2 hd
    exact hs.ib q b q1 u1 u2 q2
  · intro k k' g hk hk' e1 e2
    rw [nid'] at hk hk'
    obtain ⟨p, p1, p2, _⟩ := get k hk
    obtain ⟨p', p1', p2', _⟩ := get k' hk'
    rw [p2] at e1; rw [p2'] at e2
    exact blocks_inj I2.nd p1 p1' e1 e2
  · intro b hb hd
    obtain ⟨u1, u2⟩ := (k2 b hb).2 hd
    exact hs.wb b u1 u2
  · intro k g hk e
    rw [nid'] at hk
    obtain ⟨q, q1, q2⟩ := own k _ hk e
    exact hs.wi q g q1 q2
  · intro g T e
    obtain ⟨e1, e2, e3⟩ := hs.ent g T e
    have h0 := hnb (by rw [e]; rfl)
    exact ⟨h0, e2, ((k2 0 h0).1 e1).trans e3⟩

end
end Go.Proofs.YtmgeeanbecmkbaaGreatDoor.Den
