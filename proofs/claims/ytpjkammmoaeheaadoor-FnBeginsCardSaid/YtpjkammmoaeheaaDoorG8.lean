/- The calculus in words to read. -/
import Derived.Test.YtpjkammmoaeheaaDoorG2

/- The calculus in words to read: regions, code, loops by invariants, calls. -/
set_option linter.unusedSimpArgs false
set_option linter.unusedVariables false
namespace Go.Proofs.YtpjkammmoaeheaaDoor.Aw
open Go Go.RowKit

def opK (P : Program) (o : Oper) (env : Env) (H : AH) (K : Env → AH → Prop) : Prop :=
  match isEff o.op with
  | true => eopK P (ev env) o.op o.type H fun ov H' => K (setO env o.dst ov) H'
  | false => fopK P (ev env) H H.length o.op fun v ob => match ob with
    | none => K (setO env o.dst (some v)) H
    | some b => K (setO env o.dst (some v)) (H ++ [b])

def seqK (P : Program) (ops : List Oper) : List Oper → Env → AH → (Env → AH → Prop) → Prop
  | [], env, H, K => K env H
  | o :: r, env, H, K => gate ops o env (fun env => opK P o env H fun env' H' => seqK P ops r env' H' K) (fun env => seqK P ops r (setO env o.dst (some (.tup []))) H K)

def chkOneK (P : Program) (e : Operand → Option V) (o : Oper) (H0 : AH) (nb : Nat) (v : V) (ob : Option Blk) (H : AH) (X : Prop) : Prop :=
  match readsH P o.op, ob with
  | true, none => reK P e H0 H nb o.op v none ∧ X
  | true, some b => reK P e H0 H nb o.op v (some b) ∧ H[nb]? = some b ∧ X
  | false, some b => H[nb]? = some b ∧ X
  | false, none => X

def logOneK (P : Program) (e : Operand → Option V) (o : Oper) (H0 : AH) (i nb : Nat) (v : V) (ob : Option Blk) (l : Log) : Log :=
  match readsH P o.op, ob with
  | false, none => l
  | _, ob => (i, chkOneK P e o H0 nb v ob) :: l

def chkAllK (m : Nat) : Log → AH → Prop → Prop
  | [], _, X => X
  | (j, c) :: r, H, X => match m.testBit j with
    | true => chkAllK m r H X
    | false => c H (chkAllK m r H X)

def drawK (P : Program) (ops : List Oper) (ms : List Nat) : List Nat → Log → Env → AH → (Env → AH → Prop) → Prop
  | [], _, env, H, K => K env H
  | i :: rest, log, env, H, K =>
    match ops[i]? with
    | none => False
    | some o =>
      gate ops o env
        (fun env =>
          match isEff o.op with
          | true => eopK P (ev env) o.op o.type H fun ov H' => chkAllK (ms.getD i 0) log H' (drawK P ops ms rest log (setO env o.dst ov) H' K)
          | false => fopK P (ev env) H H.length o.op fun v ob => match ob with
            | none => drawK P ops ms rest (logOneK P (ev env) o H i H.length v none log) (setO env o.dst (some v)) H K
            | some b => drawK P ops ms rest (logOneK P (ev env) o H i H.length v (some b) log) (setO env o.dst (some v)) (H ++ [b]) K)
        (fun env => drawK P ops ms rest log (setO env o.dst (some (.tup []))) H K)

def seqQ (F : Env → AH → Prop) (Q : APost) : APost := fun e env H => match e with
  | .normal => F env H
  | .exit i => Q (.exit i) env H
  | .ret => Q .ret env H

def blockQ (id : Nat) (Q : APost) : APost := fun e env H => match e with
  | .normal => Q .normal env H
  | .exit i => match Nat.beq i id with | true => Q .normal env H | false => Q (.exit i) env H
  | .ret => Q .ret env H

/-- A loop by what holds at the head of each round, and a number that falls. -/
def LoopI (F : Env → AH → (Env → AH → Prop) → Prop) (env : Env) (H : AH) : Prop :=
  ∃ (I : Nat → Env → AH → Prop) (n : Nat), I n env H ∧ ∀ n env H, I n env H → F env H fun env' H' => ∃ m, m < n ∧ I m env' H'

def AWK (P : Program) (N : Nat) (ret : List Nat) : Code → List (Nat × List Nat) → List Nat → Env → AH → APost → Prop
  | .skip, _, _, env, H, Q => Q .normal env H
  | .region _ ops true, _, _, env, H, Q =>
    match drawOk N ops.toList (ordOf ops.toList ops.toList.length []) (masks ops.toList []) with
    | true => drawK P ops.toList (masks ops.toList []) (ordOf ops.toList ops.toList.length []) [] env H (Q .normal)
    | false => False
  | .region _ ops false, _, _, env, H, Q =>
    match ops.toList.all (dstOk N) with
    | true => seqK P ops.toList ops.toList env H (Q .normal)
    | false => False
  | .seq a b, ex, out, env, H, Q =>
    AWK P N ret a ex (liveC ret b ex out) env H (seqQ (fun env' H' => AWK P N ret b ex out (match isRegion a with | true => env' | false => keepE env' (liveC ret b ex out)) H' Q) Q)
  | .cond c a b, ex, out, env, H, Q =>
    match ev env c with
    | some (.bool t) => splitB t (AWK P N ret a ex out env H Q) (AWK P N ret b ex out env H Q)
    | _ => False
  | .block id c, ex, out, env, H, Q => AWK P N ret c ((id, out) :: ex) out env H (blockQ id Q)
  | .loop c, ex, out, env, H, Q =>
    LoopI (fun env1 H1 K => AWK P N ret c ex (liveC ret (.loop c) ex out) env1 H1 (seqQ (fun env' H' => K (keepE env' (liveC ret (.loop c) ex out)) H') Q)) (keepE env (liveC ret (.loop c) ex out)) H
  | .exit id, _, _, env, H, Q => Q (.exit id) env H
  | .ret, _, _, env, H, Q => Q .ret env H
  | _, _, _, _, _, _ => False

section
variable {P : Program}

theorem opK_out {o : Oper} {env : Env} {H : AH} {K K' : Env → AH → Prop} (hK : ∀ e H, K e H → K' e H) (h : opK P o env H K) : opA P o env H K' := by
  unfold opK at h
  unfold opA
  split at h
  · rename_i he
    rw [if_pos he]
    exact eop_mono (fun ov H' hk => hK _ _ hk) (eopK_out h)
  · rename_i he
    rw [if_neg (by simp [he])]
    obtain ⟨v, ob, h1, h2⟩ := fopK_out h
    rw [h1]
    cases ob with
    | none => exact hK _ _ h2
    | some b => exact hK _ _ h2

theorem seqK_out {ops : List Oper} {K K' : Env → AH → Prop} (hK : ∀ e H, K e H → K' e H) : ∀ (l : List Oper) (env : Env) (H : AH), seqK P ops l env H K → seqA P ops l env H K'
  | [], _, _, h => hK _ _ h
  | o :: l, env, H, h => by
    simp only [seqK, seqA] at h ⊢
    exact gate_mono (fun e he => opK_out (fun e2 H2 h2 => seqK_out hK l e2 H2 h2) he) (fun e he => seqK_out hK l _ _ he) h

/-- Each line of one log says what the same line of the other says. -/
inductive LogLe : Log → Log → Prop
  | nil : LogLe [] []
  | cons {i : Nat} {c c' : AH → Prop → Prop} {l l' : Log} : (∀ (H : AH) (X X' : Prop), (X → X') → c H X → c' H X') → LogLe l l' → LogLe ((i, c) :: l) ((i, c') :: l')

theorem chkAllK_out {m : Nat} {H : AH} {X X' : Prop} (hX : X → X') {l l' : Log} (hl : LogLe l l') : chkAllK m l H X → chkAll m l' H X' := by
  induction hl with
  | nil => exact hX
  | cons hc _ ih =>
    intro h
    simp only [chkAllK, chkAll] at h ⊢
    split at h
    · rename_i hb; rw [if_pos hb]; exact ih h
    · rename_i hb; rw [if_neg (by simp [hb])]; exact hc _ _ _ ih h

theorem logOneK_le {e : Operand → Option V} {o : Oper} {i nb : Nat} {v : V} {ob : Option Blk} {l l' : Log} {H0 : AH} (h0 : fop P e H0 nb o.op = some (v, ob)) (hl : LogLe l l') : LogLe (logOneK P e o H0 i nb v ob l) (logOne P e o i nb v ob l') := by
  have key : ∀ (H : AH) (X X' : Prop), (X → X') → chkOneK P e o H0 nb v ob H X → chkOne P e o nb v ob H X' := by
    intro H X X' hX h
    unfold chkOneK at h
    unfold chkOne
    cases hr : readsH P o.op <;> cases ob <;> simp only [hr] at h <;> simp only [Bool.false_eq_true, if_false, if_true]
    · exact hX h
    · exact ⟨h.1, hX h.2⟩
    · exact ⟨reK_out h0 h.1, hX h.2⟩
    · exact ⟨reK_out h0 h.1, h.2.1, hX h.2.2⟩
  unfold logOneK logOne
  cases hr : readsH P o.op <;> cases ob <;> simp only [Bool.false_eq_true, if_false, if_true]
  · exact hl
  · exact .cons key hl
  · exact .cons key hl
  · exact .cons key hl

theorem drawK_out {ops : List Oper} {ms : List Nat} {K K' : Env → AH → Prop} (hK : ∀ e H, K e H → K' e H) : ∀ (ord : List Nat) (log log' : Log) (env : Env) (H : AH), LogLe log log' → drawK P ops ms ord log env H K → drawA P ops ms ord log' env H K'
  | [], _, _, _, _, _, h => hK _ _ h
  | i :: rest, log, log', env, H, hl, h => by
    simp only [drawK, drawA] at h ⊢
    cases ho : ops[i]? with
    | none => simp [ho] at h
    | some o =>
      simp only [ho] at h ⊢
      refine gate_mono (fun e he => ?_) (fun e he => drawK_out hK rest _ _ _ _ hl he) h
      split at he
      · rename_i hf
        rw [if_pos hf]
        exact eop_mono (fun ov H' hh => chkAllK_out (fun hh => drawK_out hK rest _ _ _ _ hl hh) hl hh) (eopK_out he)
      · rename_i hf
        rw [if_neg (by simp [hf])]
        obtain ⟨v, ob, h1, h2⟩ := fopK_out he
        rw [h1]
        cases ob with
        | none => exact drawK_out hK rest _ _ _ _ (logOneK_le h1 hl) h2
        | some b => exact drawK_out hK rest _ _ _ _ (logOneK_le h1 hl) h2

theorem AWK_out {N : Nat} {ret : List Nat} : ∀ (c : Code) (ex : List (Nat × List Nat)) (out : List Nat) (env : Env) (H : AH) (Q Q' : APost), (∀ e env H, Q e env H → Q' e env H) → AWK P N ret c ex out env H Q → AW P N ret c ex out env H Q' := by
  intro c
  induction c with
  | skip => intro ex out env H Q Q' hQ h; exact hQ _ _ _ h
  | region id ops draw =>
    intro ex out env H Q Q' hQ h
    cases draw with
    | true =>
      simp only [AW, AWK] at h ⊢
      split at h
      · rename_i hok
        simp only [hok]
        exact drawK_out (hQ .normal) _ _ _ _ _ .nil h
      · exact h.elim
    | false =>
      simp only [AW, AWK] at h ⊢
      split at h
      · rename_i hok
        simp only [hok]
        exact seqK_out (hQ .normal) _ _ _ h
      · exact h.elim
  | seq x y ihx ihy =>
    intro ex out env H Q Q' hQ h
    simp only [AW, AWK] at h ⊢
    refine ihx _ _ _ _ _ _ ?_ h
    intro e env2 H2 hk
    cases e with
    | normal => exact ihy _ _ _ _ _ _ hQ hk
    | exit i => exact hQ _ _ _ hk
    | ret => exact hQ _ _ _ hk
  | cond c x y ihx ihy =>
    intro ex out env H Q Q' hQ h
    simp only [AW, AWK] at h ⊢
    split at h
    · rename_i t hc
      simp only [hc]
      cases t
      · exact ihy _ _ _ _ _ _ hQ h
      · exact ihx _ _ _ _ _ _ hQ h
    · exact h.elim
  | block id c ih =>
    intro ex out env H Q Q' hQ h
    simp only [AW, AWK] at h ⊢
    refine ih _ _ _ _ _ _ ?_ h
    intro e env2 H2 hk
    cases e with
    | normal => exact hQ _ _ _ hk
    | exit i =>
      simp only [blockQ] at hk ⊢
      split at hk
      · rename_i hi
        simp only [hi]
        exact hQ _ _ _ hk
      · rename_i hi
        simp only [hi]
        exact hQ _ _ _ hk
    | ret => exact hQ _ _ _ hk
  | loop c ih =>
    intro ex out env H Q Q' hQ h
    simp only [AW, AWK] at h ⊢
    obtain ⟨I, n, h0, hs⟩ := h
    refine loop_by ?_ I ?_ n _ _ h0
    · intro env1 H1 K K' hK hh
      refine AW_mono _ _ _ _ _ _ _ ?_ hh
      intro e env2 H2 hk
      cases e with
      | normal => exact hK _ _ hk
      | exit i => exact hk
      | ret => exact hk
    · intro n env1 H1 hI
      refine ih _ _ _ _ _ _ ?_ (hs n env1 H1 hI)
      intro e env2 H2 hk
      cases e with
      | normal => exact hk
      | exit i => exact hQ _ _ _ hk
      | ret => exact hQ _ _ _ hk
  | exit id => intro ex out env H Q Q' hQ h; exact hQ _ _ _ h
  | ret => intro ex out env H Q Q' hQ h; exact hQ _ _ _ h
  | rangeFunc f params assign body ih1 ih2 => intro ex out env H Q Q' hQ h; exact h
  | scope b ih => intro ex out env H Q Q' hQ h; exact h
  | label l => intro ex out env H Q Q' hQ h; exact h
  | goto l => intro ex out env H Q Q' hQ h; exact h
  | refuse s => intro ex out env H Q Q' hQ h; exact h
end

/-- Results, in words to read. -/
def resK (P : Program) (env : Env) (H : AH) : List ResultVar → (List V → Prop) → Prop
  | [], K => K []
  | .tmp t :: r, K => match getE env t with
    | some v => resK P env H r fun l => K (v :: l)
    | none => False
  | .cell x t :: r, K => match getE env x with
    | some (.ptr b i) => ldT P H t b i fun v => resK P env H r fun l => K (v :: l)
    | _ => False

def oneOf : List V → V
  | [v] => v
  | l => .tup l

def postK (P : Program) (rs : List ResultVar) (R : V → AH → Prop) : APost := fun e env H => match e with
  | .exit _ => False
  | .normal => resK P env H rs fun l => R (oneOf l) H
  | .ret => resK P env H rs fun l => R (oneOf l) H

theorem resK_out {P : Program} {env : Env} {H : AH} : ∀ {rs : List ResultVar} {K : List V → Prop}, resK P env H rs K → ∃ l, resL P env H rs = some l ∧ K l
  | [], K, h => ⟨[], rfl, h⟩
  | .tmp t :: r, K, h => by
    simp only [resK] at h
    split at h
    · rename_i v hv
      obtain ⟨l, h1, h2⟩ := resK_out h
      exact ⟨v :: l, by simp [resL, resOne, hv, h1], h2⟩
    · exact h.elim
  | .cell x t :: r, K, h => by
    simp only [resK] at h
    split at h
    · rename_i b i hv
      obtain ⟨ht, v, h1, h2⟩ := ldT_out h
      obtain ⟨l, h3, h4⟩ := resK_out h1
      refine ⟨v :: l, ?_, h4⟩
      have : resOne P env H (.cell x t) = some v := by
        simp only [resOne, hv, ht, if_true]
        rcases h2 with ⟨h5, n, l, h6, h7, rfl⟩ | ⟨h5, h6⟩
        · simp [h5, h6, h7]
        · simp [h5, h6]
      simp [resL, this, h3]
    · exact h.elim

theorem postK_out {P : Program} {rs : List ResultVar} {R : V → AH → Prop} : ∀ e env H, postK P rs R e env H → postA P rs R e env H := by
  intro e env H h
  have key : resK P env H rs (fun l => R (oneOf l) H) → match resA P env H rs with | some v => R v H | none => False := by
    intro h
    obtain ⟨l, h1, h2⟩ := resK_out h
    unfold resA
    rw [h1]
    match l, h2 with
    | [], h2 => exact h2
    | [v], h2 => exact h2
    | u :: v :: r, h2 => exact h2
  cases e with
  | normal => exact key h
  | exit i => exact h.elim
  | ret => exact key h

/-- A function by its code, in words to read. -/
def FnK (P : Program) (fn : Func) (c : Code) (args : List V) (H : AH) (R : V → AH → Prop) : Prop :=
  AWK P fn.ntmps (retSlots fn.results.toList) c [] [] (argEnv 0 args) H (postK P fn.results.toList R)

theorem callsK_of {P : Program} (hm : P.follows .mixedOrders = true) {f : FuncId} {fn : Func} {c : Code} (hf : P.funcs[f]? = some fn) (hb : fn.body = some c) (hcall : ∀ (args : Array Value) (w : World), (callFunc f args).run P w = .ok (.enter f args) w)
    {args : List V} {H : AH} {R : V → AH → Prop} (hn : args.length ≤ fn.ntmps) (h : FnK P fn c args H R) : CallsA P f args H R :=
  callsA_of hm hf hb hcall hn (AWK_out _ _ _ _ _ _ _ postK_out h)

end Go.Proofs.YtpjkammmoaeheaaDoor.Aw
