/- The calculus by denotations; a function's contract out of what the calculus asks. -/
import Derived.Test.YtpjkammmoaeheaaDoorG8
import Derived.Shelf.Abstract

/- The calculus up to the next join: what stands behind a join, and a loop's round, is asked of an oracle. -/
set_option linter.unusedSimpArgs false
set_option linter.unusedVariables false
namespace Go.Proofs.YtpjkammmoaeheaaDoor.Aw
open Go Go.RowKit

abbrev Den := Code → List (Nat × List Nat) → List Nat → Env → AH → APost → Prop

def AWS (P : Program) (N : Nat) (ret : List Nat) (D : Den) : Code → List (Nat × List Nat) → List Nat → Env → AH → APost → Prop
  | .skip, _, _, env, H, Q => Q .normal env H
  | .region _ ops true, _, _, env, H, Q =>
    match drawOk N ops.toList (ordOf ops.toList ops.toList.length []) (masks ops.toList []) with
    | true => drawK P ops.toList (masks ops.toList []) (ordOf ops.toList ops.toList.length []) [] env H (Q .normal)
    | false => False
  | .region _ ops false, _, _, env, H, Q =>
    match ops.toList.all (dstOk N) with
    | true => seqK P ops.toList ops.toList env H (Q .normal)
    | false => False
  | .seq a b, ex, out, env, H, Q =>
    match isRegion a with
    | true => AWS P N ret D a ex (liveC ret b ex out) env H (seqQ (fun env' H' => AWS P N ret D b ex out env' H' Q) Q)
    | false => AWS P N ret D a ex (liveC ret b ex out) env H (seqQ (fun env' H' => D b ex out (keepE env' (liveC ret b ex out)) H' Q) Q)
  | .cond c a b, ex, out, env, H, Q =>
    match ev env c with
    | some (.bool t) => splitB t (AWS P N ret D a ex out env H Q) (AWS P N ret D b ex out env H Q)
    | _ => False
  | .block id c, ex, out, env, H, Q => AWS P N ret D c ((id, out) :: ex) out env H (blockQ id Q)
  | .loop c, ex, out, env, H, Q =>
    LoopI (fun env1 H1 K => D c ex (liveC ret (.loop c) ex out) env1 H1 (seqQ (fun env' H' => K (keepE env' (liveC ret (.loop c) ex out)) H') Q)) (keepE env (liveC ret (.loop c) ex out)) H
  | .exit id, _, _, env, H, Q => Q (.exit id) env H
  | .ret, _, _, env, H, Q => Q .ret env H
  | _, _, _, _, _, _ => False

theorem AWS_eq (P : Program) (N : Nat) (ret : List Nat) : ∀ (c : Code) (ex : List (Nat × List Nat)) (out : List Nat) (env : Env) (H : AH) (Q : APost), AWS P N ret (AWK P N ret) c ex out env H Q = AWK P N ret c ex out env H Q := by
  intro c
  induction c with
  | skip => intro ex out env H Q; rfl
  | region id ops draw => intro ex out env H Q; cases draw <;> rfl
  | seq x y ihx ihy =>
    intro ex out env H Q
    simp only [AWS, AWK]
    cases isRegion x with
    | true => simp only [ihx, ihy]
    | false => simp only [ihx]
  | cond c x y ihx ihy =>
    intro ex out env H Q
    simp only [AWS, AWK, ihx, ihy]
    rfl
  | block id c ih => intro ex out env H Q; simp only [AWS, AWK, ih]
  | loop c ih => intro ex out env H Q; rfl
  | exit id => intro ex out env H Q; rfl
  | ret => intro ex out env H Q; rfl
  | rangeFunc f params assign body ih1 ih2 => intro ex out env H Q; rfl
  | scope b ih => intro ex out env H Q; rfl
  | label l => intro ex out env H Q; rfl
  | goto l => intro ex out env H Q; rfl
  | refuse s => intro ex out env H Q; rfl

end Go.Proofs.YtpjkammmoaeheaaDoor.Aw

/- A function's contract out of what the calculus asks of its code, for any D that answers as the calculus does. -/
set_option linter.unusedSimpArgs false
set_option linter.unusedVariables false
namespace Go.Proofs.YtpjkammmoaeheaaDoor.Aw
open Go Go.RowKit

noncomputable abbrev prog : Program := Go.Proofs.Tryd.prog

def IsD (N : Nat) (ret : List Nat) (D : Den) : Prop := ∀ (c : Code) (ex : List (Nat × List Nat)) (out : List Nat) (env : Env) (H : AH) (Q : APost), D c ex out env H Q = AWS prog N ret D c ex out env H Q

theorem mixed : prog.follows .mixedOrders = true := by kernel_rfl

theorem callsD_of {f : FuncId} {fn : Func} {c : Code} {N : Nat} {ret : List Nat} (hf : prog.funcs[f]? = some fn) (hb : fn.body = some c) (hN : fn.ntmps = N) (hret : retSlots fn.results.toList = ret)
    (hcall : ∀ (args : Array Value) (w : World), (callFunc f args).run prog w = .ok (.enter f args) w) {args : List V} {H : AH} {R : V → AH → Prop} (hn : args.length ≤ N)
    (h : ∀ D, IsD N ret D → D c [] [] (argEnv 0 args) H (postK prog fn.results.toList R)) : CallsA prog f args H R := by
  subst hN hret
  exact callsK_of mixed hf hb hcall hn (h (AWK prog fn.ntmps (retSlots fn.results.toList)) fun c ex out env H Q => (AWS_eq prog _ _ c ex out env H Q).symm)

end Go.Proofs.YtpjkammmoaeheaaDoor.Aw
