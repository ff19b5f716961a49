/- DenH: a loop within a body, by its place. -/
import Derived.Test.YtmgeeanbecmkbaaGreatDoorDenD
namespace Go.Proofs.YtmgeeanbecmkbaaGreatDoor.Den
open Go

def codeAt : List Nat → Code → Code
  | 0 :: r, .seq a _ => codeAt r a
  | _ :: r, .seq _ b => codeAt r b
  | 0 :: r, .cond _ a _ => codeAt r a
  | _ :: r, .cond _ _ b => codeAt r b
  | _ :: r, .block _ c => codeAt r c
  | _ :: r, .loop c => codeAt r c
  | _, c => c

section
variable (C : Cfg) {Out : Type} (env : Env C) (keep : Nat → List Nat) (n : Nat)

/-- What follows the code at a place. 'ms': for each loop around it, its bound and how many variables stand at its head. -/
def contAt : List Nat → List (Nat × Nat) → Code → (Ex → AS → Option Out) → (Ex → AS → Option Out)
  | 0 :: r, ms, .seq a b, K => contAt r ms a fun ex S' => match ex with
    | .normal => den C env keep n b S' K
    | .exit i => K (.exit i) S'
    | .ret => K .ret S'
  | _ :: r, ms, .seq _ b, K => contAt r ms b K
  | 0 :: r, ms, .cond _ a _, K => contAt r ms a K
  | _ :: r, ms, .cond _ _ b, K => contAt r ms b K
  | _ :: r, ms, .block id c, K => contAt r ms c fun ex S' => match ex with
    | .normal => K .normal S'
    | .exit i => bif Nat.beq i id then K .normal S' else K (.exit i) S'
    | .ret => K .ret S'
  | _ :: r, (m, nb) :: ms, .loop c, K => contAt r ms c fun ex S' => match ex with
    | .normal => loopC (fun S K => den C env keep n c S K) (canon (keep (firstRegion c)) nb) m (canon (keep (firstRegion c)) nb S') K
    | .exit i => K (.exit i) S'
    | .ret => K .ret S'
  | _, _, _, K => K

def loopBody : Code → Code
  | .loop c => c
  | c => c
end

/-- The loop at a place of a body, with what follows it. -/
def loopAt (C : Cfg) (env : Env C) (n : Nat) (f : FuncId) (fn : Func) (path : List Nat) (ms : List (Nat × Nat)) (nb m : Nat) (S : AS) : Option (C.sig f).out.D :=
  match fn.body with
  | some c => loopC (fun S K => den C env (fun r => (look (C.hint f) r).getD []) n (loopBody (codeAt path c)) S K) (canon ((look (C.hint f) (firstRegion (loopBody (codeAt path c)))).getD []) nb) m S
      (contAt C env (fun r => (look (C.hint f) r).getD []) n path ms c fun ex S' => match ex with
        | .exit _ => none
        | .normal => outD C S' (owOf (C.sig f).ps) (C.sig f).ios fn.results.toList (C.sig f).rs
        | .ret => outD C S' (owOf (C.sig f).ps) (C.sig f).ios fn.results.toList (C.sig f).rs)
  | none => none

/-- A cut's bounds. -/
def cutC {Out : Type} (n : Nat) (l h : Int) (k : Nat → Nat → Option Out) : Option Out :=
  bif decide (0 ≤ l) && decide (l ≤ h) && decide (h ≤ (n : Int)) then k l.toNat h.toNat else none

/-- An element of a list by Go's index. -/
def atC {α Out : Type} (xs : List α) (i : Int) (k : α → Option Out) : Option Out := idxC xs i k

/-- What the one comes to, the other comes to. -/
def Runs {α : Type} (b c : Option α) : Prop := ∀ r, b = some r → c = some r

theorem call_runs {P : Program} {C : Cfg} {pr : Prims C} (hp : PrimsEvt pr) (n : Nat) (f : FuncId) (fn : Func) (xs : List Arg) (hn : pr f = none) (hf : P.funcs[f]? = some fn) : Runs (bodyC C (call C P pr) n f fn xs) (call C P pr f xs) := fun _ h => call_body hp hn hf h
theorem prim_runs {P : Program} {C : Cfg} {pr : Prims C} (hp : PrimsEvt pr) (f : FuncId) (p : Env C → List Arg → Option (C.sig f).out.D) (xs : List Arg) (hn : pr f = some p) : Runs (p (call C P pr) xs) (call C P pr f xs) := fun _ h => call_prim hp hn h

/-- A function of Go's library, by what it answers. -/
structure PrimAt (C : Cfg) where
  f : FuncId
  p : List Arg → Option (C.sig f).out.D

def primsOf (C : Cfg) : List (PrimAt C) → Prims C
  | [], _ => none
  | q :: r, f => if h : q.f = f then some (fun _ xs => h ▸ q.p xs) else primsOf C r f

theorem primsOf_evt {C : Cfg} : ∀ (l : List (PrimAt C)), PrimsEvt (primsOf C l)
  | [], f, p, hp => by cases hp
  | q :: r, f, p, hp => by
    unfold primsOf at hp
    split at hp
    · rename_i h
      injection hp with hp
      subst hp
      intro env e he xs res hr
      exact Evt.all fun _ => hr
    · exact primsOf_evt r f p hp

theorem primsOf_ok {C : Cfg} {P : Program} : ∀ (l : List (PrimAt C)), (∀ q ∈ l, ∀ xs r, q.p xs = some r → CallOK P C q.f xs r) → PrimsOK P C (primsOf C l)
  | [], _, f, p, hp => by cases hp
  | q :: r, hl, f, p, hp => by
    unfold primsOf at hp
    split at hp
    · rename_i h
      subst h
      injection hp with hp
      subst hp
      intro env he xs res hr _
      exact hl q (List.mem_cons_self ..) xs res hr
    · exact primsOf_ok r (fun q' hq => hl q' (List.mem_cons_of_mem _ hq)) f p hp

end Go.Proofs.YtmgeeanbecmkbaaGreatDoor.Den
