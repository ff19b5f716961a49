/- DenJ: code. -/
import Derived.Test.YtmgeeanbecmkbaaGreatDoorDenI
import Derived.LoopN
namespace Go.Proofs.YtmgeeanbecmkbaaGreatDoor.Den
open Go
set_option linter.unusedVariables false

def Ex.out : Ex → Exit
  | .normal => .normal | .exit i => .exit i | .ret => .ret

section
variable {P : Program} {C : Cfg} {E : Entry C} {Out : Type}

theorem den_sound (hP : ProgOK P C) (hmix : P.follows .mixedOrders = true) {env : Env C} (henv : EnvOK P C env) (keep : Nat → List Nat) (n : Nat) :
    ∀ (c : Code) (S : AS) (K : Ex → AS → Option Out) (r : Out) (X : Ctx) (a : Act) (w : World) (Q : Exit → Act → World → Prop), den C env keep n c S K = some r → Sim C E S X a w →
      (∀ ex S' X' a' w', Sim C E S' X' a' w' → K ex S' = some r → Q ex.out a' w') → c.wp P Q a w
  | .skip, S, K, r, X, a, w, Q, h, hs, hQ => wp_skip (hQ .normal S X a w hs h)
  | .region id ops draw, S, K, r, X, a, w, Q, h, hs, hQ => region_sound hP hmix henv h hs fun S' X' a' w' s1 s2 => hQ .normal S' X' a' w' s1 s2
  | .seq x y, S, K, r, X, a, w, Q, h, hs, hQ => by
    refine wp_seq (den_sound hP hmix henv keep n x S _ r X a w _ h hs fun ex S' X' a' w' s1 s2 => ?_)
    cases ex with
    | normal => exact den_sound hP hmix henv keep n y S' K r X' a' w' Q s2 s1 hQ
    | exit i => exact hQ (.exit i) S' X' a' w' s1 s2
    | ret => exact hQ .ret S' X' a' w' s1 s2
  | .cond c x y, S, K, r, X, a, w, Q, h, hs, hQ => by
    unfold den at h
    split at h
    · rename_i b tg hb
      have hc : a.eval c = .bool b := bool_rep (hb ▸ opv_rep hs 0 c)
      have lit : ∀ b', b' = b → Sim C E (litCond S c b') X a w := by
        rintro b' rfl
        unfold litCond
        split
        · refine hs.same ?_
          have : a.tmps.getD _ undef = .bool b' := hc
          rw [this]; exact rep_bool b'
        · exact hs
      refine wp_cond hc ?_
      cases b with
      | true => exact den_sound hP hmix henv keep n x _ K r X a w Q h (lit true rfl) hQ
      | false => exact den_sound hP hmix henv keep n y _ K r X a w Q h (lit false rfl) hQ
    · cases h
  | .block id c, S, K, r, X, a, w, Q, h, hs, hQ => by
    refine wp_block (den_sound hP hmix henv keep n c S _ r X a w _ h hs fun ex S' X' a' w' s1 s2 => ?_)
    cases ex with
    | normal => exact hQ .normal S' X' a' w' s1 s2
    | exit i =>
      show if i = id then Q .normal a' w' else Q (.exit i) a' w'
      cases hi : Nat.beq i id <;> simp only [hi, cond_true, cond_false] at s2
      · rw [if_neg (fun e => by rw [e] at hi; simp at hi)]
        exact hQ (.exit i) S' X' a' w' s1 s2
      · rw [if_pos (Nat.eq_of_beq_eq_true hi)]
        exact hQ .normal S' X' a' w' s1 s2
    | ret => exact hQ .ret S' X' a' w' s1 s2
  | .loop c, S, K, r, X, a, w, Q, h, hs, hQ => by
    refine wp_loop_rounds n ?_
    unfold den at h
    have hnb : E.io.isSome = true → 0 < S.nb := fun e => by
      obtain ⟨p, hp⟩ := Option.isSome_iff_exists.1 e
      exact (hs.ent p.1 p.2 hp).1
    have round : ∀ (m : Nat) (T : AS) (X : Ctx) (a : Act) (w : World), loopC (fun S K => den C env keep n c S K) (canon (keep (firstRegion c)) S.nb) m T K = some r → Sim C E T X a w → Code.rounds P c Q m a w := by
      intro m
      induction m with
      | zero => intro T X a w h _; cases h
      | succ m ih =>
        intro T X a w h hs
        show c.wp P (Exit.then (Code.rounds P c Q m) Q) a w
        refine den_sound hP hmix henv keep n c T _ r X a w _ h hs fun ex S' X' a' w' s1 s2 => ?_
        cases ex with
        | normal =>
          obtain ⟨X2, s3⟩ := canon_sim s1 (keep (firstRegion c)) S.nb hnb
          exact ih _ X2 a' w' s2 s3
        | exit i => exact hQ (.exit i) S' X' a' w' s1 s2
        | ret => exact hQ .ret S' X' a' w' s1 s2
    obtain ⟨X2, s3⟩ := canon_sim hs (keep (firstRegion c)) S.nb hnb
    exact round n _ X2 a w h s3
  | .exit id, S, K, r, X, a, w, Q, h, hs, hQ => wp_exit (hQ (.exit id) S X a w hs h)
  | .ret, S, K, r, X, a, w, Q, h, hs, hQ => wp_ret (hQ .ret S X a w hs h)
  | .rangeFunc .., S, K, r, X, a, w, Q, h, hs, hQ => by unfold den at h; cases h
  | .scope .., S, K, r, X, a, w, Q, h, hs, hQ => by unfold den at h; cases h
  | .label .., S, K, r, X, a, w, Q, h, hs, hQ => by unfold den at h; cases h
  | .goto .., S, K, r, X, a, w, Q, h, hs, hQ => by unfold den at h; cases h
  | .refuse .., S, K, r, X, a, w, Q, h, hs, hQ => by unfold den at h; cases h

end
end Go.Proofs.YtmgeeanbecmkbaaGreatDoor.Den
