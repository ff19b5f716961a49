/- Pok2: strings.Builder's two methods are as they are said to be. -/
import Derived.Test.YtmgeeanbecmkbaaGreatDoorPok
namespace Go.Proofs.YtmgeeanbecmkbaaGreatDoor.Den
open Go Go.RowKit Go.Proofs
set_option linter.unusedVariables false

abbrev tB : Ty := .pair .ptr (.pair (.slice 5 (.int .u8)) .unit)
abbrev pB (kill : Bool) : Par := ⟨true, 59, tB, [false, true], kill⟩

/-- What stands in memory of a builder that is handed over. -/
theorem open_bld {C : Cfg} {R : Nat → Nat → Prop} {w : World} {x : tB.D} {g : Nat} {hs : Hds} (h : IoRep C R w 59 [false, true] tB x g hs) :
    C.ty 59 = some tB ∧ ∃ p v bs, Bld 59 5 g p v bs w ∧ bs.length = x.2.1.length ∧ hs = [(v, 5, 1, x.2.1.length)] ∧ (∀ o, ¬ R g o) ∧ (∀ g', v.ownBlock = some g' → ∀ o, R g' o ↔ o < x.2.1.length) ∧ ∀ (i : Nat) (hi : i < x.2.1.length), bs[i]? = some (.int .u8 x.2.1[i]) := by
  obtain ⟨q, l, u⟩ := x
  obtain ⟨cs, h1, h2, h3⟩ := h.rep
  obtain ⟨c1, c2, rfl, r1, h4⟩ := h2
  rw [if_neg (by decide)] at h4
  obtain ⟨c3, c4, rfl, r2, h5⟩ := h4
  rw [if_pos (by decide)] at h5
  obtain ⟨e, t, v, h2, e1, rfl, rfl, e2⟩ := h5
  obtain ⟨rfl, rfl⟩ := e2
  have e3 : (Ty.slice 5 (.int .u8)) = .slice e t := e1
  injection e3 with e3 e4
  subst e3 e4
  obtain ⟨cells, o1, o2⟩ := h.hd (v, 5, Ty.size (.int .u8), l.length) (List.mem_cons_self ..)
  have o1 : w.ownsRow 0 5 1 v l.length cells := o1
  have o2 : ∀ g', v.ownBlock = some g' → ∀ o, R g' o ↔ o < l.length * 1 := o2
  obtain ⟨p, rfl, hp⟩ : ∃ p, c1 = [p] ∧ (p = .pointer none ∨ p = .pointer (some ⟨g, 0, none⟩)) := by
    have hc1 : ∃ p, c1 = [p] := by
      have r1 : if q = true then c1 = [Go.Value.pointer none] else ∃ p, c1 = [Go.Value.pointer p] := r1
      split at r1
      · exact ⟨_, r1⟩
      · obtain ⟨p, h⟩ := r1; exact ⟨_, h⟩
    obtain ⟨p, rfl⟩ := hc1
    exact ⟨p, rfl, h3⟩
  have hlen : cells.length = l.length := by have := o1.1; rw [Nat.mul_one] at this; exact this
  refine ⟨h.ty, p, v, cells, ⟨hp, h1, by rw [hlen]; exact o1, fun e => ?_⟩, hlen, rfl, h.nr, fun g' hg' o => by rw [o2 g' hg' o, Nat.mul_one], fun i hi => ?_⟩
  · -- the row is no builder
    rcases o1.2 with ⟨rfl, _⟩ | ⟨g', cap, cur, rfl, _, hg, _⟩
    · cases e
    · simp only [Go.Value.ownBlock, Option.some.injEq] at e
      subst e
      rw [h1] at hg
      injection hg with hg
      injection hg with _ hg _
      cases hg
  · obtain ⟨A, c, e1, e2, e3⟩ := r2
    obtain ⟨g', o', c2, k1, k2, k3⟩ := e3 i hi
    have hi' : i < l.length := hi
    have k2 : c2 = [.int .u8 l[i]] := k2
    have k3 := (k3 0 _ (by rw [k2]; rfl)).1
    rw [show i * Ty.size (.int .u8) + 0 = i by simp [Ty.size]] at k3
    injection e1 with e1 _
    rw [k1] at e1
    rcases o1.2 with ⟨hv, hz⟩ | ⟨g2, cap, cur, hv, _⟩
    · rw [hz] at hi; exact absurd hi (Nat.not_lt_zero _)
    · have hcell := o1.cells (g := g2) (by rw [hv]; rfl)
      rw [hv] at e1
      injection e1 with e1 _ _
      injection e1 with e1
      injection e1 with e1 e4 _
      subst e1 e4
      have hci : i < cells.length := by omega
      have := hcell i cells[i] (List.getElem?_eq_getElem hci)
      rw [add_eq] at this
      rw [k3] at this
      rw [List.getElem?_eq_getElem hci]
      exact this.symm

theorem args_b {C : Cfg} {R : Nat → Nat → Prop} {w : World} {k : Bool} {x : tB.D} {vs : List Go.Value} {io : Option (Nat × Hds)} (h : ArgsRep C R w [pB k] [.io tB x] vs io) :
    ∃ g hs, vs = [.pointer (some ⟨g, 0, none⟩)] ∧ io = some (g, hs) ∧ IoRep C R w 59 [false, true] tB x g hs := by
  match vs, h with
  | [v], ⟨_, _, ⟨g, hs, e1, e2, e3⟩, e4⟩ => exact ⟨g, hs, by rw [e1], e2, e3⟩
  | [], h => exact h.elim
  | _ :: _ :: _, ⟨_, _, _, h⟩ => exact h.elim
theorem args_bs {C : Cfg} {R : Nat → Nat → Prop} {w : World} {k : Bool} {q : Par} {x : tB.D} {s : List UInt8} {vs : List Go.Value} {io : Option (Nat × Hds)} (h : ArgsRep C R w [pB k, q] [.io tB x, .val .str s] vs io) :
    ∃ g hs, vs = [.pointer (some ⟨g, 0, none⟩), .string ⟨s.toArray⟩] ∧ io = some (g, hs) ∧ IoRep C R w 59 [false, true] tB x g hs := by
  match vs, h with
  | [v, v2], ⟨_, _, ⟨g, hs, e1, e2, e3⟩, _, h2, e4⟩ => exact ⟨g, hs, by rw [e1, str_val h2], e2, e3⟩
  | [], h => exact h.elim
  | [_], ⟨_, _, _, h⟩ => exact h.elim
  | _ :: _ :: _ :: _, ⟨_, _, _, _, _, h⟩ => exact h.elim

theorem bytes_at {l : List Int} (h : isBytes l = true) {bs : List Go.Value} (hl : bs.length = l.length) (hb : ∀ (i : Nat) (hi : i < l.length), bs[i]? = some (.int .u8 l[i])) : bs = Lib.byteCells (bytesOf l) := by
  apply List.ext_getElem?
  intro i
  rcases Nat.lt_or_ge i l.length with hi | hi
  · rw [hb i hi]
    have hb := List.all_eq_true.1 h l[i] (List.getElem_mem hi)
    simp only [Bool.and_eq_true, decide_eq_true_eq] at hb
    unfold Lib.byteCells bytesOf
    rw [List.getElem?_map, List.getElem?_map, List.getElem?_eq_getElem hi]
    simp only [Option.map_some]
    congr 2
    rw [UInt8.toNat_ofNat']
    omega
  · rw [List.getElem?_eq_none (by omega)]
    unfold Lib.byteCells bytesOf
    rw [List.getElem?_eq_none (by simpa using hi)]

theorem io_ty {C : Cfg} {R : Nat → Nat → Prop} {w : World} {k : Bool} {t : Ty} {x : t.D} {xs : List Arg} {ps : List Par} {vs : List Go.Value} {io : Option (Nat × Hds)} (h : ArgsRep C R w (pB k :: ps) (.io t x :: xs) vs io) : t = tB := by
  match vs, h with
  | v :: vs, ⟨_, h, _⟩ => exact h
  | [], h => exact h.elim
theorem okString (xs : List Arg) (r : (Sig.out ⟨[pB true], [.str]⟩).D) (h : pString xs = some r) : CallOKs Tryz.prog cfg ⟨[pB true], [.str]⟩ 31 xs r := by
  unfold pString at h
  split at h
  · rename_i e x
    cases hs : isBytes x.2.1 <;> rw [hs] at h
    · cases h
    · rw [cond_true] at h
      injection h with h
      subst h
      intro R w vs io ha hnd hlt hg
      have he := io_ty ha
      injection he with _ he
      injection he with he _
      injection he with he _
      subst he
      obtain ⟨g, hs', rfl, rfl, hrep⟩ := args_b ha
      obtain ⟨hty, p, v, bs, hB, hbl, rfl, hnr, hR, hbs⟩ := open_bld hrep
      have hcells := bytes_at hs hbl hbs
      subst hcells
      have hres : ∀ k, k ∉ resBlocks (some (g, [(v, 5, 1, x.2.1.length)])) → k ≠ g ∧ ¬ v.ownBlock = some k := by
        intro k hk
        simp only [resBlocks, blocksOf, List.filterMap_cons, List.filterMap_nil, List.mem_cons, not_or] at hk
        refine ⟨hk.1, fun e => ?_⟩
        rw [e] at hk
        exact hk.2 (List.mem_cons_self ..)
      refine (bld_string Tryz.lays169 Tryz.Builder_Extra_169 hB).mono ?_
      rintro e w' ⟨rfl, ho, hc⟩
      refine ⟨R, _, [], rfl, ⟨⟨fun _ _ h => h, fun a o h => hc ⟨a, o, none⟩ (hlt a o h)⟩, fun a o h => .inl h, fun a o h => Nat.lt_of_lt_of_le (hlt a o h) ho.size, ho.os, ho.tape, ho.output, ho.size, fun a ha hn => ho.block a ha (hres a hn).2, List.nodup_nil, fun a ha => by cases ha⟩, ⟨res_str _, rfl⟩, rfl, fun a hs e => ?_⟩
      injection e with e
      injection e with e1 e2
      subst e1
      exact ⟨ho.block _ hB.lt hB.ne, hnr⟩
  · cases h

theorem okWriteString {T : TypeId} (xs : List Arg) (r : (Sig.out ⟨[pB false, pS T], [.int .i64, .err]⟩).D) (h : pWriteString xs = some r) : CallOKs Tryz.prog cfg ⟨[pB false, pS T], [.int .i64, .err]⟩ 28 xs r := by
  unfold pWriteString at h
  split at h
  · rename_i e x s
    cases hs : isBytes x.2.1 && decide (x.2.1.length + s.length ≤ 140737488355328) <;> rw [hs] at h
    · cases h
    · rw [cond_true] at h
      injection h with h
      subst h
      simp only [Bool.and_eq_true, decide_eq_true_eq] at hs
      intro R w vs io ha hnd hlt hg
      have he := io_ty ha
      injection he with _ he
      injection he with he _
      injection he with he _
      subst he
      obtain ⟨g, hs', rfl, rfl, hrep⟩ := args_bs ha
      obtain ⟨hty, p, v, bs, hB, hbl, rfl, hnr, hR, hbs⟩ := open_bld hrep
      have hsz : (⟨s.toArray⟩ : ByteArray).size = s.length := size_of s
      have hcap : bs.length + (⟨s.toArray⟩ : ByteArray).size ≤ 140737488355328 := by rw [hsz, hbl]; exact hs.2
      refine (bld_write Tryz.lays166 Tryz.Builder_Extra_166 ⟨s.toArray⟩ hB hcap).mono ?_
      rintro e w' ⟨rfl, v', hB', ho, hnew⟩
      have hB' : Bld 59 5 g (.pointer (some ⟨g, 0, none⟩)) v' (bs ++ Lib.strCells ⟨s.toArray⟩) w' := hB'
      have ho : Only (bldT g v v') w w' := ho
      -- how long the row is now
      have hn : (bs ++ Lib.strCells ⟨s.toArray⟩).length = x.2.1.length + s.length := by rw [List.length_append, Lib.strCells_length, hsz, hbl]
      have hlen2 : (x.2.1 ++ byteInts s).length = x.2.1.length + s.length := by rw [List.length_append, byteInts_len]
      have hown := hB'.own
      rw [hn] at hown
      -- the new row's cells
      have hcellsI : ∀ (i : Nat) (hi : i < (x.2.1 ++ byteInts s).length), (bs ++ Lib.strCells ⟨s.toArray⟩)[i]? = some (.int .u8 (x.2.1 ++ byteInts s)[i]) := by
        intro i hi
        rcases Nat.lt_or_ge i x.2.1.length with h | h
        · rw [List.getElem?_append_left (by omega), hbs i h, List.getElem_append_left h]
        · rw [List.getElem?_append_right (by omega), List.getElem_append_right h]
          unfold Lib.strCells byteInts
          rw [List.getElem?_map]
          have hi2 : i - x.2.1.length < s.length := by rw [hlen2] at hi; omega
          have : (⟨s.toArray⟩ : ByteArray).data.toList = s := by simp
          rw [this, hbl, List.getElem?_eq_getElem hi2, List.getElem_map]
          rfl
      have hrowI : ∀ g', v'.ownBlock = some g' → ∀ (i : Nat) (hi : i < x.2.1.length + s.length), w'.cell? ⟨g', i, none⟩ = some (.int .u8 ((x.2.1 ++ byteInts s)[i]'(by rw [hlen2]; exact hi))) := by
        intro g' hg' i hi
        have := hown.cells hg' i _ (hcellsI i (by rw [hlen2]; exact hi))
        rw [add_eq, Nat.zero_add] at this
        exact this
      have hlt' : ∀ g', v'.ownBlock = some g' → g' < w'.heap.size := by
        intro g' hg'
        rcases hown.2 with ⟨hv, _⟩ | ⟨g2, cap, cur, hv, _, h2, _⟩
        · rw [hv] at hg'; cases hg'
        · rw [hv] at hg'
          simp only [Go.Value.ownBlock, Option.some.injEq] at hg'
          subst hg'
          rcases Nat.lt_or_ge g2 w'.heap.size with h | h
          · exact h
          · simp [Array.getElem?_eq_none h] at h2
      have hres : ∀ k, k ∉ resBlocks (some (g, [(v, 5, 1, x.2.1.length)])) → k ≠ g ∧ ¬ v.ownBlock = some k := by
        intro k hk
        simp only [resBlocks, blocksOf, List.filterMap_cons, List.filterMap_nil, List.mem_cons, not_or] at hk
        refine ⟨hk.1, fun e => ?_⟩
        rw [e] at hk
        exact hk.2 (List.mem_cons_self ..)
      have hin : ∀ k, v.ownBlock = some k → k ∈ resBlocks (some (g, [(v, 5, 1, x.2.1.length)])) := by
        intro k hk
        simp only [resBlocks, blocksOf, List.filterMap_cons, List.filterMap_nil, hk]
        exact List.mem_cons_of_mem _ (List.mem_cons_self ..)
      have hb' : ∀ k, k ∈ blocksOf [(v', 5, 1, x.2.1.length + s.length)] ↔ v'.ownBlock = some k := by
        intro k
        simp only [blocksOf, List.filterMap_cons, List.filterMap_nil]
        cases hv : v'.ownBlock with
        | none => simp
        | some j => simp [eq_comm]
      have hRn : ∀ g', v'.ownBlock = some g' → ∀ o, (R g' o ∨ (v'.ownBlock = some g' ∧ o < x.2.1.length + s.length)) ↔ o < x.2.1.length + s.length := by
        intro g' hg' o
        constructor
        · rintro (h | h)
          · rcases hnew g' hg' with h2 | h2
            · have := (hR g' h2 o).1 h; omega
            · have := hlt g' o h; omega
          · exact h.2
        · exact fun h => .inr ⟨hg', h⟩
      refine ⟨fun a o => R a o ∨ (v'.ownBlock = some a ∧ o < x.2.1.length + s.length), _, g :: blocksOf [(v', 5, 1, x.2.1.length + s.length)], rfl,
        ⟨⟨fun a o h => .inl h, fun a o h => ?_⟩, fun a o h => ?_, fun a o h => ?_, ho.os, ho.tape, ho.output, ho.size, fun a ha hn => ho.block a ha fun e => ?_, ?_, fun a ha => ?_⟩, ?_, ?_⟩
      · -- what is read-only stands
        by_cases hS : bldT g v v' a
        · rcases hS with rfl | ⟨h1, h2⟩
          · exact absurd h (hnr o)
          · have ho' := (hR a h1 o).1 h
            have hold : w.cell? ⟨a, o, none⟩ = some (.int .u8 x.2.1[o]) := by
              have := hB.own.cells h1 o _ (hbs o ho')
              rw [add_eq, Nat.zero_add] at this
              exact this
            rw [hold, hrowI a h2 o (by omega)]
            congr 2
            exact List.getElem_append_left ho'
        · exact World.cell?_of_block (ho.block a (hlt a o h) hS)
      · rcases h with h | ⟨h, _⟩
        · exact .inl h
        · rcases hnew a h with h2 | h2
          · exact .inr (.inr (hin a h2))
          · exact .inr (.inl h2)
      · rcases h with h | ⟨h, _⟩
        · exact Nat.lt_of_lt_of_le (hlt a o h) ho.size
        · exact hlt' a h
      · rcases e with e | ⟨e, _⟩
        · exact (hres a hn).1 e
        · exact (hres a hn).2 e
      · refine List.nodup_cons.2 ⟨fun hm => ?_, ?_⟩
        · exact hB'.ne ((hb' g).1 hm)
        · simp only [blocksOf, List.filterMap_cons, List.filterMap_nil]
          cases v'.ownBlock <;> simp
      · rcases List.mem_cons.1 ha with rfl | ha
        · exact .inl (List.mem_cons_self ..)
        · rcases hnew a ((hb' a).1 ha) with h2 | h2
          · exact .inl (hin a h2)
          · exact .inr h2
      · refine ⟨[_, _], rfl, _, _, rfl, ?_, rfl, _, _, rfl, res_nil, rfl, rfl⟩
        rw [hsz]
        exact res_int _ _
      · refine ⟨pB false, g, [(v, 5, 1, x.2.1.length)], [(v', 5, 1, x.2.1.length + s.length)], rfl, rfl, rfl, ⟨hty, rfl, ⟨[.pointer (some ⟨g, 0, none⟩), v'], hB'.blk, ?_, .inr rfl⟩, fun o h => ?_, fun q hq => ?_⟩, rfl⟩
        · refine ⟨[.pointer (some ⟨g, 0, none⟩)], [v'], rfl, ⟨_, rfl⟩, ?_⟩
          rw [if_neg (by decide)]
          refine ⟨[v'], [], rfl, ?_, ?_⟩
          · rcases hown.2 with ⟨hv, hz⟩ | ⟨g2, cap, cur, hv, _, _, hc, _⟩
            · refine ⟨none, 0, by rw [hv]; show [Go.Value.slice none 0 0] = [Go.Value.slice none (x.2.1 ++ byteInts s).length 0]; rw [hlen2, hz], by show (x.2.1 ++ byteInts s).length ≤ 0; rw [hlen2, hz]; exact Nat.le_refl _, fun i hi => ?_⟩
              have hi : i < (x.2.1 ++ byteInts s).length := hi
              rw [hlen2, hz] at hi
              exact absurd hi (Nat.not_lt_zero _)
            · refine ⟨some ⟨g2, 0, none⟩, cap, by rw [hv]; show [Go.Value.slice _ _ _] = [Go.Value.slice _ (x.2.1 ++ byteInts s).length _]; rw [hlen2], by show (x.2.1 ++ byteInts s).length ≤ cap; rw [hlen2]; exact hc, fun i hi => ?_⟩
              have hi : i < (x.2.1 ++ byteInts s).length := hi
              have hvb : v'.ownBlock = some g2 := by rw [hv]; rfl
              refine ⟨g2, 0, [.int .u8 (x.2.1 ++ byteInts s)[i]], rfl, rfl, fun j u hj => ?_⟩
              match j, hj with
              | 0, hj =>
                simp only [List.getElem?_cons_zero, Option.some.injEq] at hj
                subst hj
                rw [show 0 + (i * Ty.size (.int .u8) + 0) = i by simp [Ty.size]]
                rw [hlen2] at hi
                exact ⟨hrowI g2 hvb i hi, .inr ⟨hvb, hi⟩⟩
          · rw [if_pos (by decide)]
            refine ⟨5, .int .u8, v', [], rfl, rfl, ?_, rfl, rfl⟩
            show _ = (v', 5, Ty.size (.int .u8), (x.2.1 ++ byteInts s).length) :: []
            rw [hlen2]
            rfl
        · rcases h with h | ⟨h, _⟩
          · exact hnr o h
          · exact hB'.ne h
        · rw [List.mem_singleton.1 hq]
          exact ⟨bs ++ Lib.strCells ⟨s.toArray⟩, hown, fun g' hg' o => by rw [Nat.mul_one]; exact hRn g' hg' o⟩
  · cases h

end Go.Proofs.YtmgeeanbecmkbaaGreatDoor.Den
