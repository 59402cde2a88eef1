/- The calculus: regions, code, loops, calls; contracts of functions. -/
import Derived.Test.YtpjkammmoaeheaaDoorG1

/- Frames, guards; regions in the order of the text. -/
set_option linter.unusedSimpArgs false
set_option linter.unusedVariables false
namespace Go.Proofs.YtpjkammmoaeheaaDoor.Aw
open Go Go.RowKit

/-! ### Only the operands count -/
section
variable {P : Program} {e e' : Operand → Option V} {H : AH} {nb : Nat}

theorem evL_congr : ∀ {xs : List Operand}, (∀ x ∈ xs, e x = e' x) → evL e xs = evL e' xs
  | [], _ => rfl
  | x :: xs, h => by simp only [evL]; rw [h x (by simp), evL_congr fun y hy => h y (by simp [hy])]

theorem parts_congr : ∀ {ps : List (Nat × Operand)}, (∀ x ∈ ps.map (·.2), e x = e' x) → parts e ps = parts e' ps
  | [], _ => rfl
  | (i, x) :: ps, h => by
    simp only [parts]
    rw [h x (by simp), parts_congr fun y hy => h y (by simp only [List.map_cons, List.mem_cons]; exact .inr hy)]

theorem optI_congr {x : Option Operand} (h : ∀ y, x = some y → e y = e' y) : optI e x = optI e' x := by
  cases x with
  | none => rfl
  | some y => simp only [optI]; rw [h y rfl]

theorem fop_congr {op : Op} (h : ∀ x ∈ op.operands, e x = e' x) : fop P e H nb op = fop P e' H nb op := by
  cases op <;> simp only [Op.operands] at h <;> simp only [fop]
  case move x => rw [h x (by simp)]
  case assign x => rw [h x (by simp)]
  case pick c a b => rw [h c (by simp), h a (by simp), h b (by simp)]
  case box t x => rw [h x (by simp)]
  case build t ps =>
    simp only [buildA]
    rw [parts_congr fun x hx => h x (by simpa using hx)]
  case buildSlice t n ps => rw [parts_congr fun x hx => h x (by simpa using hx)]
  case load t a => rw [h a (by simp)]
  case nilCheck x => rw [h x (by simp)]
  case binOp op t x y t' => rw [h x (by simp), h y (by simp)]
  case unOp op t x => rw [h x (by simp)]
  case convert s d x => rw [h x (by simp)]
  case makeInterface t x => rw [h x (by simp)]
  case makeFunc fn first cap => rw [evL_congr fun x hx => h x (by simp at hx ⊢; exact .inl hx), evL_congr fun x hx => h x (by simp at hx ⊢; exact .inr hx)]
  case makeMap t r =>
    cases r with
    | none => rfl
    | some x => simp only [fop]; rw [h x (by simp)]
  case makeSlice t l c => rw [h l (by simp), h c (by simp)]
  case slice t x lo hi mx =>
    rw [h x (by simp), optI_congr fun y hy => h y (by simp [hy]), optI_congr fun y hy => h y (by simp [hy]), optI_congr fun y hy => h y (by simp [hy])]
  case fieldAddr s x f => rw [h x (by simp)]
  case field s x f => rw [h x (by simp)]
  case indexAddr t x i => rw [h x (by simp), h i (by simp)]
  case index t x i => rw [h x (by simp), h i (by simp)]
  case lookup t m k ok => rw [h m (by simp), h k (by simp)]
  case extract x k => rw [h x (by simp)]
  case call c => rw [evL_congr (e := e) (e' := e') fun x hx => h x (by simp [Call.operands]; exact .inr (by simpa using hx))]
  all_goals rfl

theorem eop_congr {op : Op} (h : ∀ x ∈ op.operands, e x = e' x) (K : Option V → AH → Prop) : eop P e op H K = eop P e' op H K := by
  cases op <;> simp only [Op.operands] at h <;> simp only [eop]
  case store t a x => rw [h a (by simp), h x (by simp)]
  case mapUpdate t m k x => rw [h m (by simp), h k (by simp), h x (by simp)]
  case insert t m k x => rw [h m (by simp), h k (by simp), h x (by simp)]
  case call c =>
    have ha := evL_congr (e := e) (e' := e') (xs := c.args.toList) fun x hx => h x (by simp [Call.operands]; exact .inr (by simpa using hx))
    cases hc : c.callee with
    | value f => simp only; rw [h f (by simp [Call.operands, hc]), ha]
    | invoke r m => rfl
    | builtin b => cases b <;> simp only [ha]
end

/-! ### Frames -/
def EnvR (p : PMap) (env : Env) (tmps : Array Value) : Prop := ∀ t v, getE env t = some v → ∃ r, tmps[t]? = some r ∧ Rn p v r

theorem ev_rn {p : PMap} {env : Env} {a : Act} (h : EnvR p env a.tmps) : ∀ x v, ev env x = some v → Rn p v (a.eval x) := by
  intro x v hx
  cases x with
  | tmp t =>
    simp only [ev] at hx
    obtain ⟨r, h1, h2⟩ := h t v hx
    simp only [Act.eval, Array.getD_eq_getD_getElem?, h1, Option.getD_some]
    exact h2
  | const c => exact vOf_rn p hx
  | global g => simp [ev] at hx
  | func f =>
    simp only [ev, Option.some.injEq] at hx
    subst hx
    simp only [Rn, Act.eval]
    exact ⟨[], [], rfl, by simp [RnL], by simp [RnL]⟩

def setO (env : Env) : Option Nat → Option V → Env
  | none, _ => env
  | some t, some v => putE env t v
  | some t, none => delE env t

theorem getE_setO (env : Env) (d : Option Nat) (ov : Option V) (x : Nat) : getE (setO env d ov) x = if d = some x then ov else getE env x := by
  cases d with
  | none => simp [setO]
  | some t =>
    cases ov with
    | none => simp only [setO, getE_del, Option.some.injEq]; by_cases h : x = t <;> simp [h, eq_comm]
    | some v => simp only [setO, getE_put, Option.some.injEq]; by_cases h : x = t <;> simp [h, eq_comm]

def dstOk (N : Nat) (o : Oper) : Bool := match o.dst with | some d => d < N | none => true

theorem EnvR.set {p p' : PMap} {env : Env} {a : Act} (h : EnvR p env a.tmps) (hp : p.le p') {o : Oper} (hd : dstOk a.tmps.size o = true) {ov : Option V} {r : Value} (hr : ∀ v, ov = some v → Rn p' v r) : EnvR p' (setO env o.dst ov) (a.put o.dst r).tmps := by
  intro t v hv
  rw [getE_setO] at hv
  cases ho : o.dst with
  | none =>
    rw [ho, if_neg (by simp)] at hv
    obtain ⟨r', h1, h2⟩ := h t v hv
    exact ⟨r', by simpa [Act.put, ho] using h1, h2.mono hp⟩
  | some d =>
    rw [ho] at hv
    simp only [dstOk, ho, decide_eq_true_eq] at hd
    by_cases hdt : d = t
    · subst hdt
      rw [if_pos rfl] at hv
      exact ⟨r, by simp [Act.put, hd], hr v hv⟩
    · rw [if_neg (by simpa using hdt)] at hv
      obtain ⟨r', h1, h2⟩ := h t v hv
      exact ⟨r', by simp only [Act.put]; rw [Array.getElem?_setIfInBounds_ne hdt]; exact h1, h2.mono hp⟩

theorem put_size (a : Act) (d : Option Tmp) (v : Value) : (a.put d v).tmps.size = a.tmps.size := by
  cases d <;> simp [Act.put]

theorem put_defers (a : Act) (d : Option Tmp) (v : Value) : (a.put d v).defers = a.defers := by
  cases d <;> simp [Act.put]

/-! ### Guards -/
def splitB (b : Bool) (x y : Prop) : Prop := match b with | true => x | false => y

theorem splitB_iff (b : Bool) (x y : Prop) : splitB b x y ↔ (b = true → x) ∧ (b = false → y) := by cases b <;> simp [splitB]

def gate (ops : List Oper) (o : Oper) (env : Env) (yes no : Env → Prop) : Prop :=
  match o.guard with
  | none => yes env
  | some (j, want) =>
    match (ops[j]?).bind (·.dst) with
    | none => no env
    | some t =>
      match getE env t with
      | some (.bool b) => splitB b ((if want then yes else no) (putE env t (.bool true))) ((if want then no else yes) (putE env t (.bool false)))
      | some (.tup []) => no env
      | _ => False

/-- Whether an operation is wanted, as the frame says. -/
def wantE (ops : List Oper) (o : Oper) (env : Env) : Prop :=
  match o.guard with
  | none => True
  | some (j, want) => ∃ t, (ops[j]?).bind (·.dst) = some t ∧ getE env t = some (.bool want)

def idleE (ops : List Oper) (o : Oper) (env : Env) : Prop :=
  ∃ j want, o.guard = some (j, want) ∧ ((ops[j]?).bind (·.dst) = none ∨ ∃ t, (ops[j]?).bind (·.dst) = some t ∧ (getE env t = some (.bool (!want)) ∨ getE env t = some (.tup [])))

theorem gate_cases {ops : List Oper} {o : Oper} {env : Env} {yes no : Env → Prop} (h : gate ops o env yes no) : ∃ env', (∀ t, getE env' t = getE env t) ∧ ((wantE ops o env' ∧ yes env') ∨ (idleE ops o env' ∧ no env')) := by
  unfold gate at h
  cases hg : o.guard with
  | none =>
    simp only [hg] at h
    exact ⟨env, fun _ => rfl, .inl ⟨by simp [wantE, hg], h⟩⟩
  | some g =>
    obtain ⟨j, want⟩ := g
    simp only [hg] at h
    cases hd : (ops[j]?).bind (·.dst) with
    | none =>
      simp only [hd] at h
      exact ⟨env, fun _ => rfl, .inr ⟨⟨j, want, hg, .inl hd⟩, h⟩⟩
    | some t =>
      simp only [hd] at h
      split at h
      · rename_i b hb
        cases b with
        | true =>
          refine ⟨putE env t (.bool true), fun x => by rw [getE_put]; split <;> simp_all, ?_⟩
          simp only [splitB] at h
          cases want with
          | true => exact .inl ⟨by simp only [wantE, hg]; exact ⟨t, hd, by simp [getE_put]⟩, h⟩
          | false => exact .inr ⟨⟨j, false, hg, .inr ⟨t, hd, .inl (by simp [getE_put])⟩⟩, h⟩
        | false =>
          refine ⟨putE env t (.bool false), fun x => by rw [getE_put]; split <;> simp_all, ?_⟩
          simp only [splitB] at h
          cases want with
          | true => exact .inr ⟨⟨j, true, hg, .inr ⟨t, hd, .inl (by simp [getE_put])⟩⟩, h⟩
          | false => exact .inl ⟨by simp only [wantE, hg]; exact ⟨t, hd, by simp [getE_put]⟩, h⟩
      · rename_i hb
        exact ⟨env, fun _ => rfl, .inr ⟨⟨j, want, hg, .inr ⟨t, hd, .inr hb⟩⟩, h⟩⟩
      · exact h.elim

theorem want_run {p : PMap} {ops : Array Oper} {o : Oper} {env : Env} {tmps : Array Value} (h : wantE ops.toList o env) (hr : ∀ j w t, o.guard = some (j, w) → (ops[j]?).bind (·.dst) = some t → ∀ v, getE env t = some v → ∃ r, tmps[t]? = some r ∧ Rn p v r) : Region.wanted o (yielded ops tmps) = true := by
  unfold wantE at h
  unfold Region.wanted
  cases hg : o.guard with
  | none => rfl
  | some g =>
    obtain ⟨j, want⟩ := g
    simp only [hg] at h
    obtain ⟨t, h1, h2⟩ := h
    rw [Array.getElem?_toList] at h1
    obtain ⟨r, h3, h4⟩ := hr j want t hg h1 _ h2
    simp only [Rn] at h4
    subst h4
    simp [yielded, h1, h3]

theorem idle_run {p : PMap} {ops : Array Oper} {o : Oper} {env : Env} {tmps : Array Value} (h : idleE ops.toList o env) (hr : ∀ j w t, o.guard = some (j, w) → (ops[j]?).bind (·.dst) = some t → ∀ v, getE env t = some v → ∃ r, tmps[t]? = some r ∧ Rn p v r) : Region.wanted o (yielded ops tmps) = false := by
  obtain ⟨j, want, hg, h⟩ := h
  simp only [Array.getElem?_toList] at h
  unfold Region.wanted
  rcases h with h | ⟨t, h1, h2⟩
  · simp [hg, yielded, h]
  · rcases h2 with h2 | h2
    · obtain ⟨r, h3, h4⟩ := hr j want t hg h1 _ h2
      simp only [Rn] at h4
      subst h4
      cases want <;> simp [hg, yielded, h1, h3]
    · obtain ⟨r, h3, h4⟩ := hr j want t hg h1 _ h2
      simp only [Rn, RnL] at h4
      obtain ⟨rs, rfl, rfl⟩ := h4
      simp [hg, yielded, h1, h3]

/-! ### Regions in the order of the text -/
def opA (P : Program) (o : Oper) (env : Env) (H : AH) (K : Env → AH → Prop) : Prop :=
  if isEff o.op then eop P (ev env) o.op H fun ov H' => K (setO env o.dst ov) H'
  else match fop P (ev env) H H.length o.op with
    | some (v, none) => K (setO env o.dst (some v)) H
    | some (v, some b) => K (setO env o.dst (some v)) (H ++ [b])
    | none => False

def seqA (P : Program) (ops : List Oper) : List Oper → Env → AH → (Env → AH → Prop) → Prop
  | [], env, H, K => K env H
  | o :: r, env, H, K => gate ops o env (fun env => opA P o env H fun env' H' => seqA P ops r env' H' K) (fun env => seqA P ops r (setO env o.dst (some (.tup []))) H K)

/-- A state of the machine for a frame and an abstract heap. -/
structure St (w0 : World) (p0 : PMap) (n0 N : Nat) (env : Env) (H : AH) (a : Act) (w : World) : Prop where
  ex : ∃ p, Inv w0 p H w ∧ EnvR p env a.tmps ∧ p0.le p ∧ ∀ b, b < n0 → p0 b = none → p b = none
  len : n0 ≤ H.length
  size : a.tmps.size = N
  defers : a.defers = []

theorem undef_rn (p : PMap) : Rn p (.tup []) undef := by
  simp only [Rn, RnL]
  exact ⟨[], rfl, rfl⟩

section
variable {P : Program} {w0 w : World} {p0 : PMap} {n0 N : Nat} {ops : Array Oper} {Q : Exit → Act → World → Prop}

theorem EnvR.congr {p : PMap} {env env' : Env} {tmps : Array Value} (h : EnvR p env tmps) (he : ∀ t, getE env' t = getE env t) : EnvR p env' tmps := fun t v hv => h t v (by rw [← he]; exact hv)

theorem opA_sound {o : Oper} {env : Env} {H : AH} {K : Env → AH → Prop} {a : Act} {w : World} (hd : dstOk N o = true) (hs : St w0 p0 n0 N env H a w) (h : opA P o env H K) {next : Act → World → Prop}
    (hn : ∀ env' H' a' w', K env' H' → St w0 p0 n0 N env' H' a' w' → next a' w') : o.wp P a w next Q := by
  obtain ⟨⟨p, hI, hE, hle, hfr⟩, hlen, hsz, hdf⟩ := hs
  have he := ev_rn hE
  unfold opA at h
  split at h
  · refine eop_sound hI he h fun ov H' p' w' r hK hp hq hI' hr => hn _ _ _ _ hK ⟨⟨p', hI', hE.set hp (by rw [hsz]; exact hd) hr, hle.le_trans hp, fun b hb hb0 => hq.1 b (by omega) (hfr b hb hb0)⟩, by have := hq.2; omega, by rw [put_size, hsz], by rw [put_defers, hdf]⟩
  · have key : ∀ v ob, fop P (ev env) H H.length o.op = some (v, ob) → K (setO env o.dst (some v)) (H ++ ob.toList) → o.wp P a w next Q := by
      intro v ob hf hK
      have hnone : p H.length = none := by
        cases hx : p H.length with
        | none => rfl
        | some f => exact absurd (hI.lt hx) (by omega)
      obtain ⟨r, w', p', h1, h2, h3, h4, h5⟩ := fop_sound hI (hI.app ob.toList) he hnone hf (fun b hb => by subst hb; simp)
      unfold Oper.wp
      rw [h1]
      exact hn _ _ _ _ hK ⟨⟨p', h5, hE.set h2 (by rw [hsz]; exact hd) (fun v' hv => by injection hv with hv; subst hv; exact h4), hle.le_trans h2, fun b hb hb0 => by rw [h3 b (by omega)]; exact hfr b hb hb0⟩, by simp; omega, by rw [put_size, hsz], by rw [put_defers, hdf]⟩
    split at h
    · rename_i v hf
      exact key v none hf (by simpa using h)
    · rename_i v b hf
      exact key v (some b) hf (by simpa using h)
    · exact h.elim

theorem seqA_sound {K : Env → AH → Prop} (hd : ∀ o ∈ ops.toList, dstOk N o = true) (hK : ∀ env H a w, K env H → St w0 p0 n0 N env H a w → Q .normal a w) : ∀ (l : List Oper) (k : Nat) (env : Env) (H : AH) (a : Act) (w : World), (∀ j, l[j]? = ops[k + j]?) →
    St w0 p0 n0 N env H a w → seqA P ops.toList l env H K → wpOps P ops Q ((List.range l.length).map (k + ·)) a w
  | [], k, env, H, a, w, _, hs, h => hK env H a w h hs
  | o :: l, k, env, H, a, w, hl, hs, h => by
    have h0 : ops[k]? = some o := by simpa using (hl 0).symm
    have hmem : o ∈ ops.toList := by
      rw [← Array.getElem?_toList] at h0
      exact List.mem_of_getElem? h0
    have hl' : ∀ j, l[j]? = ops[k + 1 + j]? := fun j => by have := hl (j + 1); simpa [Nat.add_assoc, Nat.add_comm 1 j] using this
    have hmap : (List.range (o :: l).length).map (k + ·) = k :: (List.range l.length).map (k + 1 + ·) := by
      rw [List.length_cons, List.range_succ_eq_map]
      simp only [List.map_cons, List.map_map, Nat.add_zero]
      congr 1
      apply List.map_congr_left
      intro x _
      simp only [Function.comp]
      omega
    rw [hmap, wpOps_cons]
    unfold wpOp
    simp only [h0]
    simp only [seqA] at h
    obtain ⟨env', he, hg⟩ := gate_cases h
    obtain ⟨⟨p, hI, hE, hle, hfr⟩, hlen, hsz, hdf⟩ := hs
    have hE' := hE.congr he
    rcases hg with ⟨hw, hy⟩ | ⟨hi, hno⟩
    · rw [want_run hw fun j w t _ _ v hv => hE' t v hv]
      simp only [if_true]
      exact .inl (opA_sound (hd o hmem) ⟨⟨p, hI, hE', hle, hfr⟩, hlen, hsz, hdf⟩ hy fun env2 H2 a2 w2 hk2 hs2 => seqA_sound hd hK l (k + 1) env2 H2 a2 w2 hl' hs2 hk2)
    · rw [idle_run hi fun j w t _ _ v hv => hE' t v hv]
      simp only [Bool.false_eq_true, if_false]
      refine seqA_sound hd hK l (k + 1) _ H _ w hl' ⟨⟨p, hI, hE'.set (PMap.le_refl _) (by rw [hsz]; exact hd o hmem) (fun v hv => by injection hv with hv; subst hv; exact undef_rn p), hle, hfr⟩, hlen, by rw [put_size, hsz], by rw [put_defers, hdf]⟩ hno

end
end Go.Proofs.YtpjkammmoaeheaaDoor.Aw

/- Regions that draw their order: one walk, and what was read is asked again behind each operation that writes. -/
set_option linter.unusedSimpArgs false
set_option linter.unusedVariables false
namespace Go.Proofs.YtpjkammmoaeheaaDoor.Aw
open Go Go.RowKit

def depsOf (o : Oper) : List Nat := (o.after.toList.filter (Region.binds .any)).map (·.on)

def maskOf (acc : List Nat) : List Nat → Nat
  | [] => 0
  | d :: r => (1 <<< d) ||| acc.getD d 0 ||| maskOf acc r

def masks : List Oper → List Nat → List Nat
  | [], acc => acc
  | o :: r, acc => masks r (acc ++ [maskOf acc (depsOf o)])

def ancOk (ops : List Oper) (ms : List Nat) : Bool :=
  (List.range ops.length).all fun j => (List.range ops.length).all fun i =>
    !(ms.getD j 0).testBit i || match ops[j]? with
      | some o => (depsOf o).any fun d => d == i || (decide (d < j) && (ms.getD d 0).testBit i)
      | none => false

def pairsOk (ops : List Oper) (ms : List Nat) : Bool :=
  (List.range ops.length).all fun j => (List.range j).all fun i =>
    (ms.getD j 0).testBit i || (ms.getD i 0).testBit j || match ops[i]?, ops[j]? with
      | some x, some y => x.apart ops.toArray y
      | _, _ => false

def notReady (ops : List Oper) (done : List Nat) (j : Nat) : Bool :=
  match ops[j]? with
  | some o => (depsOf o).any fun d => !done.contains d
  | none => true

def ordChk (ops : List Oper) : List Nat → List Nat → Bool
  | done, [] => (List.range ops.length).all done.contains
  | done, i :: rest =>
    (match ops[i]? with
      | some o => (depsOf o).all done.contains && !done.contains i && (!isEff o.op || (List.range ops.length).all fun j => j == i || done.contains j || notReady ops done j)
      | none => false) && ordChk ops (i :: done) rest

def pickRow (ops : List Oper) (done : List Nat) (eff : Bool) : List Nat → Option Nat
  | [] => none
  | j :: r => match ops[j]? with
    | some o => if isEff o.op == eff && !done.contains j && !notReady ops done j then some j else pickRow ops done eff r
    | none => pickRow ops done eff r

def ordOf (ops : List Oper) : Nat → List Nat → List Nat
  | 0, _ => []
  | n + 1, done => match pickRow ops done false (List.range ops.length) with
    | some j => j :: ordOf ops n (j :: done)
    | none => match pickRow ops done true (List.range ops.length) with
      | some j => j :: ordOf ops n (j :: done)
      | none => []

def drawOk (N : Nat) (ops : List Oper) (ord ms : List Nat) : Bool :=
  ancOk ops ms && pairsOk ops ms && ordChk ops [] ord && ops.all (dstOk N) && Region.noSelect ops.toArray

/-- Operations whose yield hangs on the heap. -/
def readsH (P : Program) : Op → Bool
  | .load _ _ => true
  | .lookup _ _ _ _ => true
  | .convert s _ _ => match P.underlying s with | some (.slice _) => true | _ => false
  | .call c => match c.argTypes[0]? with
    | some t => match P.underlying t with | some (.map _ _) => true | _ => false
    | none => false
  | _ => false

abbrev Log := List (Nat × (AH → Prop → Prop))

def chkOne (P : Program) (e : Operand → Option V) (o : Oper) (nb : Nat) (v : V) (ob : Option Blk) (H : AH) (X : Prop) : Prop :=
  if readsH P o.op then fop P e H nb o.op = some (v, ob) ∧ (match ob with | some b => H[nb]? = some b ∧ X | none => X)
  else match ob with | some b => H[nb]? = some b ∧ X | none => X

def logOne (P : Program) (e : Operand → Option V) (o : Oper) (i nb : Nat) (v : V) (ob : Option Blk) (l : Log) : Log :=
  if readsH P o.op then (i, chkOne P e o nb v ob) :: l
  else match ob with | some b => (i, chkOne P e o nb v (some b)) :: l | none => l

def chkAll (m : Nat) : Log → AH → Prop → Prop
  | [], _, X => X
  | (j, c) :: r, H, X => if m.testBit j then chkAll m r H X else c H (chkAll m r H X)

def drawA (P : Program) (ops : List Oper) (ms : List Nat) : List Nat → Log → Env → AH → (Env → AH → Prop) → Prop
  | [], _, env, H, K => K env H
  | i :: rest, log, env, H, K =>
    match ops[i]? with
    | none => False
    | some o =>
      gate ops o env
        (fun env =>
          if isEff o.op then eop P (ev env) o.op H fun ov H' => chkAll (ms.getD i 0) log H' (drawA P ops ms rest log (setO env o.dst ov) H' K)
          else match fop P (ev env) H H.length o.op with
            | some (v, none) => drawA P ops ms rest (logOne P (ev env) o i H.length v none log) (setO env o.dst (some v)) H K
            | some (v, some b) => drawA P ops ms rest (logOne P (ev env) o i H.length v (some b) log) (setO env o.dst (some v)) (H ++ [b]) K
            | none => False)
        (fun env => drawA P ops ms rest log (setO env o.dst (some (.tup []))) H K)

/-! ### Laws -/
theorem cellsN_more {H : AH} {b i n : Nat} {l : List V} (h : H.cellsN b i n = some l) (m : List Blk) : AH.cellsN (H ++ m) b i n = some l := by
  cases n with
  | zero => exact h
  | succ n =>
    simp only [AH.cellsN, AH.cellsS] at *
    cases hb : H[b]? with
    | none => simp [hb] at h
    | some x =>
      have hlt : b < H.length := (List.getElem?_eq_some_iff.1 hb).1
      rw [List.getElem?_append_left hlt, hb]
      rw [hb] at h
      exact h

theorem cell_more {H : AH} {b i : Nat} {v : V} (h : H.cell b i = some v) (m : List Blk) : AH.cell (H ++ m) b i = some v := by
  unfold AH.cell at *
  cases hb : H[b]? with
  | none => simp [hb] at h
  | some x =>
    have hlt : b < H.length := (List.getElem?_eq_some_iff.1 hb).1
    rw [List.getElem?_append_left hlt, hb]
    rw [hb] at h
    exact h

theorem blk_more {H : AH} {b : Nat} {x : Blk} (h : H[b]? = some x) (m : List Blk) : (H ++ m)[b]? = some x := by
  have hlt : b < H.length := (List.getElem?_eq_some_iff.1 h).1
  rw [List.getElem?_append_left hlt, h]

section
variable {P : Program} {e : Operand → Option V} {H : AH} {nb : Nat}

theorem fop_still {op : Op} (h : readsH P op = false) (H' : AH) : fop P e H nb op = fop P e H' nb op := by
  cases op <;> simp only [fop]
  case load => simp [readsH] at h
  case lookup => simp [readsH] at h
  case makeMap t r => cases r <;> simp only [fop]
  case convert s d x =>
    cases hx : e x with
    | none => rfl
    | some a =>
      simp only [convA]
      simp only [readsH] at h
      split <;> first | rfl | skip
      · rename_i hu _
        rw [hu] at h
        cases h
  case call c =>
    cases hc : c.callee with
    | value f => rfl
    | invoke r m => rfl
    | builtin b =>
      cases b <;> simp only
      case len =>
        split
        · rename_i t x ht ha
          simp only [readsH, ht] at h
          simp only [lenA]
          split <;> first | rfl | skip
          · rename_i hu
            rw [hu] at h
            cases h
        · rfl

theorem fop_more {op : Op} {x : V × Option Blk} (h : fop P e H nb op = some x) (m : List Blk) : fop P e (H ++ m) nb op = some x := by
  by_cases hr : readsH P op = true
  · cases op <;> simp only [readsH] at hr
    case load t a =>
      simp only [fop] at h ⊢
      split at h
      · rename_i b i ha
        split at h
        · rename_i ht
          simp only [ht, if_true]
          split at h
          · rename_i hg
            simp only [hg, if_true]
            split at h
            · rename_i n hs
              cases hc : AH.cellsN H b i n with
              | none => simp [hc] at h
              | some l => rw [cellsN_more hc]; rw [hc] at h; exact h
            · cases h
          · rename_i hg
            simp only [hg, if_false, Bool.false_eq_true]
            cases hc : AH.cell H b i with
            | none => simp [hc] at h
            | some l => rw [cell_more hc]; rw [hc] at h; exact h
        · cases h
      · cases h
    case lookup t mm k ok =>
      simp only [fop] at h ⊢
      split at h
      · rename_i mv kv hm hk
        cases hv : lookupA P H t mv kv ok with
        | none => simp [hv] at h
        | some v =>
          have : lookupA P (H ++ m) t mv kv ok = some v := by
            unfold lookupA at hv ⊢
            split at hv
            · rename_i kt el b hu
              split at hv
              · rename_i es hb
                rw [blk_more hb]
                exact hv
              · cases hv
            · cases hv
          rw [this]
          rw [hv] at h
          exact h
      · cases h
    case convert s d y =>
      simp only [fop] at h ⊢
      cases hx : e y with
      | none => simp [hx] at h
      | some a =>
        simp only [hx] at h ⊢
        unfold convA at h ⊢
        split at h
        · exact h
        · exact h
        · exact h
        · rename_i el b i n c hs hd
          split at h
          · rename_i hu
            simp only [hu, if_true]
            cases hc : AH.cellsN H b i n with
            | none => simp [hc] at h
            | some l => rw [cellsN_more hc]; rw [hc] at h; exact h
          · cases h
        · cases h
    case call c =>
      simp only [fop] at h ⊢
      cases hc : c.callee with
      | value f => simp [hc] at h
      | invoke r m => simp [hc] at h
      | builtin b =>
        cases b <;> simp only [hc] at h ⊢ <;> try exact h
        case len =>
          split at h
          · rename_i t x ht ha
            cases hv : lenA P H t x with
            | none => simp [hv] at h
            | some v =>
              have : lenA P (H ++ m) t x = some v := by
                unfold lenA at hv ⊢
                split at hv <;> try exact hv
                · rename_i b hu
                  split at hv
                  · rename_i es hb
                    rw [blk_more hb]
                    exact hv
                  · cases hv
              rw [this]
              rw [hv] at h
              exact h
          · cases h
    all_goals cases hr
  · rw [← fop_still (by simpa using hr) (H ++ m)]
    exact h
end

end Go.Proofs.YtpjkammmoaeheaaDoor.Aw

/- One walk of a region that draws its order serves every order. -/
set_option linter.unusedSimpArgs false
set_option linter.unusedVariables false
namespace Go.Proofs.YtpjkammmoaeheaaDoor.Aw
open Go Go.RowKit

inductive Tag where
  | idle
  | eff
  | flo (nb : Nat) (v : V) (ob : Option Blk)

/-- An operation that the walk has met: what it left, and the frame that it met. -/
structure Rec where
  i : Nat
  env : Env
  ov : Option V
  tag : Tag

def dstAt (ops : List Oper) (i : Nat) : Option Nat := (ops[i]?).bind (·.dst)

def upd (ops : List Oper) : List Rec → Env → Env
  | [], env => env
  | r :: rs, env => setO (upd ops rs env) (dstAt ops r.i) r.ov

def logOf (P : Program) (ops : List Oper) : List Rec → Log
  | [] => []
  | r :: rs => match r.tag, ops[r.i]? with
    | .flo nb v ob, some o => logOne P (ev r.env) o r.i nb v ob (logOf P ops rs)
    | _, _ => logOf P ops rs

def PendOK (P : Program) (ops : List Oper) (n0 : Nat) (T : AH) (p : PMap) (r : Rec) : Prop :=
  ∃ o, ops[r.i]? = some o ∧ match r.tag with
    | .idle => idleE ops o r.env ∧ r.ov = some (.tup [])
    | .eff => False
    | .flo nb v ob => wantE ops o r.env ∧ isEff o.op = false ∧ r.ov = some v ∧ fop P (ev r.env) T nb o.op = some (v, ob) ∧ ∀ b, ob = some b → T[nb]? = some b ∧ p nb = none ∧ n0 ≤ nb

theorem upd_get (ops : List Oper) (r : Rec) (rs : List Rec) (env : Env) (t : Nat) : getE (upd ops (r :: rs) env) t = if dstAt ops r.i = some t then r.ov else getE (upd ops rs env) t := getE_setO _ _ _ _

theorem upd_agree (ops : List Oper) (env : Env) (t : Nat) (f g : Rec → Bool) : ∀ (h : List Rec), (∀ r ∈ h, dstAt ops r.i = some t → f r = g r) → getE (upd ops (h.filter f) env) t = getE (upd ops (h.filter g) env) t
  | [], _ => rfl
  | r :: h, hh => by
    have ih := upd_agree ops env t f g h fun s hs => hh s (by simp [hs])
    simp only [List.filter_cons]
    by_cases hd : dstAt ops r.i = some t
    · have := hh r (by simp) hd
      rw [this]
      cases g r
      · simpa using ih
      · simp only [if_true, upd_get, if_pos hd]
    · cases f r <;> cases g r <;> simp only [if_true, if_false, Bool.false_eq_true, upd_get, if_neg hd] <;> exact ih

theorem upd_drop (ops : List Oper) (env : Env) (t : Nat) (r : Rec) (B : List Rec) (hd : dstAt ops r.i ≠ some t) : ∀ (A : List Rec), getE (upd ops (A ++ r :: B) env) t = getE (upd ops (A ++ B) env) t
  | [] => by simp only [List.nil_append, upd_get, if_neg hd]
  | s :: A => by simp only [List.cons_append, upd_get, upd_drop ops env t r B hd A]

theorem upd_here (ops : List Oper) (env : Env) (t : Nat) (r : Rec) (B : List Rec) (hd : dstAt ops r.i = some t) : ∀ (A : List Rec), (∀ s ∈ A, dstAt ops s.i ≠ some t) → getE (upd ops (A ++ r :: B) env) t = r.ov
  | [], _ => by simp only [List.nil_append, upd_get, if_pos hd]
  | s :: A, h => by
    simp only [List.cons_append, upd_get, if_neg (h s (by simp))]
    exact upd_here ops env t r B hd A fun x hx => h x (by simp [hx])

section
variable {ops : List Oper} {ms : List Nat}

theorem anc_closed (h : ancOk ops ms = true) (X : Nat → Prop) (hX : ∀ j o, X j → ops[j]? = some o → ∀ d ∈ depsOf o, X d) : ∀ (j : Nat) (o : Oper), ops[j]? = some o → (∀ d ∈ depsOf o, X d) → ∀ i, i < ops.length → (ms.getD j 0).testBit i = true → X i := by
  intro j
  induction j using Nat.strongRecOn with
  | _ j ih =>
    intro o ho hd i hi hb
    have hj : j < ops.length := (List.getElem?_eq_some_iff.1 ho).1
    unfold ancOk at h
    have h1 := (List.all_eq_true.1 h) j (List.mem_range.2 hj)
    have h2 := (List.all_eq_true.1 h1) i (List.mem_range.2 hi)
    rw [hb, ho] at h2
    simp only [Bool.not_true, Bool.false_or] at h2
    obtain ⟨d, hdm, h3⟩ := List.any_eq_true.1 h2
    simp only [Bool.or_eq_true, beq_iff_eq, Bool.and_eq_true, decide_eq_true_eq] at h3
    rcases h3 with rfl | ⟨h4, h5⟩
    · exact hd _ hdm
    · have hdl : d < ops.length := by omega
      exact ih d h4 ops[d] (List.getElem?_eq_getElem hdl) (hX d _ (hd d hdm) (List.getElem?_eq_getElem hdl)) i hi h5

theorem pair_apart (h : pairsOk ops ms = true) {i j : Nat} (hne : i ≠ j) {x y : Oper} (hx : ops[i]? = some x) (hy : ops[j]? = some y) (h1 : (ms.getD j 0).testBit i = false) (h2 : (ms.getD i 0).testBit j = false) :
    (∀ d, x.dst = some d → d ∉ y.looksAt ops.toArray) ∧ (∀ d, x.dst = some d → y.dst ≠ some d) := by
  have hi : i < ops.length := (List.getElem?_eq_some_iff.1 hx).1
  have hj : j < ops.length := (List.getElem?_eq_some_iff.1 hy).1
  unfold pairsOk at h
  rcases Nat.lt_or_gt_of_ne hne with hlt | hgt
  · have h3 := (List.all_eq_true.1 ((List.all_eq_true.1 h) j (List.mem_range.2 hj))) i (List.mem_range.2 hlt)
    rw [h1, h2, hx, hy] at h3
    have := Oper.apart_spec (ops := ops.toArray) (by simpa using h3)
    exact ⟨this.1, this.2.1⟩
  · have h3 := (List.all_eq_true.1 ((List.all_eq_true.1 h) i (List.mem_range.2 hi))) j (List.mem_range.2 hgt)
    rw [h1, h2, hx, hy] at h3
    obtain ⟨h4, h5, h6⟩ := Oper.apart_spec (ops := ops.toArray) (by simpa using h3)
    exact ⟨h6, fun d hd hc => h5 d hc hd⟩
end

theorem fop_nb {P : Program} {e : Operand → Option V} {H : AH} {nb : Nat} {op : Op} {v : V} (h : fop P e H nb op = some (v, none)) (nb' : Nat) : fop P e H nb' op = some (v, none) := by
  cases op <;> simp only [fop] at h ⊢ <;> try exact h
  case alloc t => split at h <;> first | cases h; done | (split at h <;> simp at h)
  case box t x => split at h <;> first | cases h; done | (split at h <;> simp at h)
  case buildSlice t n ps =>
    split at h <;> first | cases h; done | skip
    split at h <;> first | cases h; done | skip
    split at h <;> first | cases h; done | skip
    split at h <;> first | cases h; done | skip
    split at h <;> first | cases h; done | simp at h
  case makeSlice t l c =>
    split at h <;> first | cases h; done | skip
    split at h <;> first | cases h; done | skip
    split at h <;> first | cases h; done | simp at h
  case makeMap t r =>
    cases r with
    | none => simp [fop] at h
    | some x =>
      simp only [fop] at h
      split at h <;> first | cases h; done | simp at h
  case convert s d x =>
    cases hx : e x with
    | none => simp [hx] at h
    | some a =>
      simp only [hx] at h ⊢
      unfold convA at h ⊢
      split at h <;> first | exact h | skip
      split at h <;> simp at h

theorem chkAll_get {P : Program} {ops : List Oper} {m : Nat} {H : AH} {X : Prop} : ∀ {hist : List Rec}, chkAll m (logOf P ops hist) H X → X ∧ ∀ r ∈ hist, m.testBit r.i = false → ∀ nb v ob, r.tag = .flo nb v ob → ∀ o, ops[r.i]? = some o →
    (readsH P o.op = true → fop P (ev r.env) H nb o.op = some (v, ob)) ∧ ∀ b, ob = some b → H[nb]? = some b
  | [], h => ⟨h, by simp⟩
  | r :: hist, h => by
    simp only [logOf] at h
    split at h
    · rename_i nb v ob o ht ho
      have key : chkAll m (logOf P ops hist) H X ∧ (m.testBit r.i = false → (readsH P o.op = true → fop P (ev r.env) H nb o.op = some (v, ob)) ∧ ∀ b, ob = some b → H[nb]? = some b) := by
        unfold logOne at h
        split at h
        · rename_i hr
          simp only [chkAll] at h
          split at h
          · rename_i hm
            exact ⟨h, fun h' => by rw [hm] at h'; cases h'⟩
          · simp only [chkOne, hr, if_true] at h
            obtain ⟨h1, h2⟩ := h
            cases ob with
            | none => exact ⟨h2, fun _ => ⟨fun _ => h1, fun b hb => by cases hb⟩⟩
            | some b => exact ⟨h2.2, fun _ => ⟨fun _ => h1, fun b' hb => by injection hb with hb; subst hb; exact h2.1⟩⟩
        · rename_i hr
          cases ob with
          | none => exact ⟨h, fun _ => ⟨fun h' => absurd h' hr, fun b hb => by cases hb⟩⟩
          | some b =>
            simp only [chkAll] at h
            split at h
            · rename_i hm
              exact ⟨h, fun h' => by rw [hm] at h'; cases h'⟩
            · simp only [chkOne, hr, if_false] at h
              exact ⟨h.2, fun _ => ⟨fun h' => absurd h' hr, fun b' hb => by injection hb with hb; subst hb; exact h.1⟩⟩
      obtain ⟨h1, h2⟩ := chkAll_get key.1
      refine ⟨h1, fun s hs hm nb' v' ob' ht' o' ho' => ?_⟩
      rcases List.mem_cons.1 hs with rfl | hs
      · rw [ht] at ht'
        injection ht' with e1 e2 e3
        subst e1 e2 e3
        rw [ho] at ho'
        injection ho' with ho'
        subst ho'
        exact key.2 hm
      · exact h2 s hs hm nb' v' ob' ht' o' ho'
    · rename_i hno
      obtain ⟨h1, h2⟩ := chkAll_get h
      refine ⟨h1, fun s hs hm nb' v' ob' ht' o' ho' => ?_⟩
      rcases List.mem_cons.1 hs with rfl | hs
      · exact absurd ho' (hno _ _ _ _ ht')
      · exact h2 s hs hm nb' v' ob' ht' o' ho'

structure RI (P : Program) (ops : Array Oper) (ms : List Nat) (env0 : Env) (N : Nat) (w0 : World) (p0 : PMap) (n0 : Nat) (K : Env → AH → Prop) (listed : Array Bool) (a : Act) (w : World) (hist : List Rec) (rest : List Nat) (env : Env) (T : AH) (p : PMap) : Prop where
  cont : drawA P ops.toList ms rest (logOf P ops.toList hist) env T K
  henv : ∀ t, getE env t = getE (upd ops.toList hist env0) t
  chk : ordChk ops.toList (hist.map (·.i)) rest = true
  nod : (hist.map (·.i)).Nodup
  topo : ∀ later r earlier, hist = later ++ r :: earlier → ∀ o, ops[r.i]? = some o → ∀ d ∈ depsOf o, d ∈ earlier.map (·.i)
  inv : Inv w0 p T w
  ple : p0.le p
  pfr : ∀ b, b < n0 → p0 b = none → p b = none
  nlen : n0 ≤ T.length
  tm : EnvR p (upd ops.toList (hist.filter fun r => listed.getD r.i false) env0) a.tmps
  sz : a.tmps.size = N
  df : a.defers = []
  lsz : listed.size = ops.size
  lin : ∀ j, listed.getD j false = true → j ∈ hist.map (·.i)
  lcl : ∀ j o, listed.getD j false = true → ops[j]? = some o → ∀ d ∈ depsOf o, listed.getD d false = true
  leff : ∀ r ∈ hist, r.tag = .eff → listed.getD r.i false = true
  pend : ∀ later r earlier, hist = later ++ r :: earlier → listed.getD r.i false = false → (∀ t, getE r.env t = getE (upd ops.toList earlier env0) t) ∧ PendOK P ops.toList n0 T p r
  uniq : ∀ r s, r ∈ hist → s ∈ hist → r.i ≠ s.i → listed.getD r.i false = false → listed.getD s.i false = false → ∀ nb v b nb' v' b', r.tag = .flo nb v (some b) → s.tag = .flo nb' v' (some b') → nb ≠ nb'

def Rests (ops : Array Oper) (rest : List Nat) : Prop := rest = [] ∨ ∃ i r o, rest = i :: r ∧ ops[i]? = some o ∧ isEff o.op = true

section
variable {P : Program} {ops : Array Oper} {ms : List Nat} {env0 : Env} {N : Nat} {w0 : World} {p0 : PMap} {n0 : Nat} {K : Env → AH → Prop} {listed : Array Bool} {a : Act} {w : World} {hist : List Rec} {rest : List Nat} {env : Env} {T : AH} {p : PMap}

theorem mem_split {α : Type} {x : α} : ∀ {l : List α}, x ∈ l → ∃ A B, l = A ++ x :: B
  | y :: l, h => by
    rcases List.mem_cons.1 h with rfl | h
    · exact ⟨[], l, rfl⟩
    · obtain ⟨A, B, rfl⟩ := mem_split h
      exact ⟨y :: A, B, rfl⟩

theorem RI.none_len (h : RI P ops ms env0 N w0 p0 n0 K listed a w hist rest env T p) : p T.length = none := by
  cases hx : p T.length with
  | none => rfl
  | some f => exact absurd (h.inv.lt hx) (by omega)

/-- The walk goes on as far as the next operation that writes. -/
theorem RI.advance (hd : ∀ o ∈ ops.toList, dstOk N o = true) : ∀ (rest : List Nat) {hist : List Rec} {env : Env} {T : AH}, RI P ops ms env0 N w0 p0 n0 K listed a w hist rest env T p → ∃ hist' rest' env' T', RI P ops ms env0 N w0 p0 n0 K listed a w hist' rest' env' T' p ∧ Rests ops rest'
  | [], hist, env, T, h => ⟨hist, [], env, T, h, .inl rfl⟩
  | i :: rest, hist, env, T, h => by
    have hc := h.chk
    simp only [ordChk, Bool.and_eq_true] at hc
    obtain ⟨hc1, hc2⟩ := hc
    cases ho : ops.toList[i]? with
    | none => simp [ho] at hc1
    | some o =>
      have ho' : ops[i]? = some o := by rw [← Array.getElem?_toList]; exact ho
      simp only [ho, Bool.and_eq_true, Bool.not_eq_true'] at hc1
      obtain ⟨⟨hdeps, hnew⟩, heffc⟩ := hc1
      have hnotin : i ∉ hist.map (·.i) := by simpa using hnew
      have hdep : ∀ d ∈ depsOf o, d ∈ hist.map (·.i) := fun d hd => by
        have := List.all_eq_true.1 hdeps d hd
        simpa using this
      by_cases heff : isEff o.op = true
      · exact ⟨hist, i :: rest, env, T, h, .inr ⟨i, rest, o, rfl, ho', heff⟩⟩
      · have heff' : isEff o.op = false := by simpa using heff
        have hunl : listed.getD i false = false := by
          cases hl : listed.getD i false with
          | false => rfl
          | true => exact absurd (h.lin i hl) hnotin
        have hcont := h.cont
        simp only [drawA, ho] at hcont
        obtain ⟨env1, he1, hg⟩ := gate_cases hcont
        -- what both ways share
        have share : ∀ (ov : Option V) (tag : Tag) (T2 : AH), (∀ b, b < T.length → T2[b]? = T[b]?) → T.length ≤ T2.length → tag ≠ .eff →
            drawA P ops.toList ms rest (logOf P ops.toList (⟨i, env1, ov, tag⟩ :: hist)) (setO env1 o.dst ov) T2 K →
            PendOK P ops.toList n0 T2 p ⟨i, env1, ov, tag⟩ →
            (∀ r ∈ hist, PendOK P ops.toList n0 T p r → PendOK P ops.toList n0 T2 p r) →
            (∀ r ∈ hist, PendOK P ops.toList n0 T p r → ∀ nb v b nb' v' b', tag = .flo nb v (some b) → r.tag = .flo nb' v' (some b') → nb ≠ nb') →
            RI P ops ms env0 N w0 p0 n0 K listed a w (⟨i, env1, ov, tag⟩ :: hist) rest (setO env1 o.dst ov) T2 p := by
          intro ov tag T2 hT2 hT2l htag hdr hpn hpo huq
          have hda : dstAt ops.toList i = o.dst := by simp [dstAt, ho']
          refine { cont := hdr, henv := ?_, chk := hc2, nod := ?_, topo := ?_, inv := h.inv.more hT2, ple := h.ple, pfr := h.pfr, nlen := Nat.le_trans h.nlen hT2l, tm := ?_, sz := h.sz, df := h.df, lsz := h.lsz, lin := fun j hj => by simp [h.lin j hj] , lcl := h.lcl, leff := ?_, pend := ?_, uniq := ?_ }
          · intro t
            rw [upd_get, getE_setO, hda, he1, h.henv]
          · simpa using ⟨by simpa using hnotin, h.nod⟩
          · intro later r earlier hsplit o2 ho2 d hd2
            cases later with
            | nil =>
              simp only [List.nil_append, List.cons.injEq] at hsplit
              obtain ⟨rfl, rfl⟩ := hsplit
              simp only at ho2
              rw [ho'] at ho2
              injection ho2 with ho2
              subst ho2
              exact hdep d hd2
            | cons x later =>
              simp only [List.cons_append, List.cons.injEq] at hsplit
              exact h.topo later r earlier hsplit.2 o2 ho2 d hd2
          · simp only [List.filter_cons, hunl, Bool.false_eq_true, if_false]
            exact h.tm
          · intro r hr hre
            rcases List.mem_cons.1 hr with rfl | hr
            · exact absurd hre htag
            · exact h.leff r hr hre
          · intro later r earlier hsplit hl
            cases later with
            | nil =>
              simp only [List.nil_append, List.cons.injEq] at hsplit
              obtain ⟨rfl, rfl⟩ := hsplit
              exact ⟨fun t => by simp only; rw [he1, h.henv], hpn⟩
            | cons x later =>
              simp only [List.cons_append, List.cons.injEq] at hsplit
              obtain ⟨h1, h2⟩ := h.pend later r earlier hsplit.2 hl
              exact ⟨h1, hpo r (by rw [hsplit.2]; simp) h2⟩
          · intro r s hr hs hne hrl hsl nb v b nb' v' b' htr hts
            have pof : ∀ x ∈ hist, listed.getD x.i false = false → PendOK P ops.toList n0 T p x := by
              intro x hx hxl
              obtain ⟨A, B, hAB⟩ := mem_split hx
              exact (h.pend A x B hAB hxl).2
            rcases List.mem_cons.1 hr with rfl | hr <;> rcases List.mem_cons.1 hs with rfl | hs
            · exact absurd rfl hne
            · exact huq s hs (pof s hs hsl) nb v b nb' v' b' htr hts
            · exact (huq r hr (pof r hr hrl) nb' v' b' nb v b hts htr).symm
            · exact h.uniq r s hr hs hne hrl hsl nb v b nb' v' b' htr hts
        rcases hg with ⟨hw, hy⟩ | ⟨hi, hno⟩
        · rw [if_neg heff] at hy
          have more : ∀ (m : List Blk) (r : Rec), PendOK P ops.toList n0 T p r → PendOK P ops.toList n0 (T ++ m) p r := by
            intro m r hr
            obtain ⟨o2, ho2, hr⟩ := hr
            refine ⟨o2, ho2, ?_⟩
            cases ht : r.tag with
            | idle => simpa [ht] using hr
            | eff => simp [ht] at hr
            | flo nb v ob =>
              simp only [ht] at hr ⊢
              obtain ⟨h1, h2, h3, h4, h5⟩ := hr
              exact ⟨h1, h2, h3, fop_more h4 m, fun b hb => ⟨blk_more (h5 b hb).1 m, (h5 b hb).2⟩⟩
          split at hy
          · rename_i v hf
            have hri := share (some v) (.flo T.length v none) T (fun _ _ => rfl) (Nat.le_refl _) (by simp) (by simpa [logOf, ho'] using hy) ⟨o, ho, hw, heff', rfl, hf, fun b hb => by cases hb⟩ (fun r _ hr => hr) (fun r _ _ nb v b nb' v' b' h1 _ => by simp at h1)
            exact RI.advance hd rest hri
          · rename_i v b hf
            have hri := share (some v) (.flo T.length v (some b)) (T ++ [b]) (fun x hx => List.getElem?_append_left hx) (by simp) (by simp) (by simpa [logOf, ho'] using hy)
              ⟨o, ho, hw, heff', rfl, fop_more hf [b], fun b' hb => by injection hb with hb; subst hb; exact ⟨by rw [List.getElem?_append_right (Nat.le_refl _)]; simp, h.none_len, h.nlen⟩⟩ (fun r _ hr => more [b] r hr) (by
                intro r hr hpr nb v2 b2 nb' v' b' h1 h2
                injection h1 with h1 _ _
                obtain ⟨o2, _, hpr⟩ := hpr
                simp only [h2] at hpr
                obtain ⟨_, _, _, _, hpr⟩ := hpr
                have := (List.getElem?_eq_some_iff.1 (hpr b' rfl).1).1
                omega)
            exact RI.advance hd rest hri
          · exact hy.elim
        · have hri := share (some (.tup [])) .idle T (fun _ _ => rfl) (Nat.le_refl _) (by simp) (by simpa [logOf] using hno) ⟨o, ho, hi, rfl⟩ (fun r _ hr => hr) (fun r _ _ nb v b nb' v' b' h1 _ => by simp at h1)
          exact RI.advance hd rest hri

/-- A frame in which only an operation's own temporaries are known. -/
def evR (S : List Nat) (env : Env) : Operand → Option V
  | .tmp t => if S.contains t then getE env t else none
  | .const c => ev env (.const c)
  | .global g => ev env (.global g)
  | .func f => ev env (.func f)

theorem evR_same {o : Oper} {env : Env} : ∀ x ∈ o.op.operands, ev env x = evR (o.looksAt ops) env x := by
  intro x hx
  cases x with
  | tmp t =>
    have : t ∈ o.looksAt ops := List.mem_append_left _ (List.mem_filterMap.2 ⟨.tmp t, by simpa using hx, rfl⟩)
    simp only [ev, evR]
    rw [if_pos (by simpa using this)]
  | const c => rfl
  | global g => rfl
  | func f => rfl

theorem evR_rn {p : PMap} {S : List Nat} {env : Env} {a : Act} (h : ∀ t ∈ S, ∀ v, getE env t = some v → ∃ r, a.tmps[t]? = some r ∧ Rn p v r) : ∀ x v, evR S env x = some v → Rn p v (a.eval x) := by
  intro x v hx
  cases x with
  | tmp t =>
    simp only [evR] at hx
    split at hx
    · rename_i ht
      obtain ⟨r, h1, h2⟩ := h t (by simpa using ht) v hx
      simp only [Act.eval, Array.getD_eq_getD_getElem?, h1, Option.getD_some]
      exact h2
    · cases hx
  | const c => exact ev_rn (env := []) (fun t v hv => by simp [getE] at hv) _ _ hx
  | global g => simp [evR, ev] at hx
  | func f => exact ev_rn (env := []) (fun t v hv => by simp [getE] at hv) (.func f) v hx

theorem guard_looks {o : Oper} {j : Nat} {w : Bool} {t : Nat} (hg : o.guard = some (j, w)) (hd : (ops[j]?).bind (·.dst) = some t) : t ∈ o.looksAt ops := by
  unfold Oper.looksAt
  rw [hg]
  simp [hd]

theorem nodup_mem {A B : List Rec} {r s : Rec} (h : ((A ++ r :: B).map (·.i)).Nodup) (hs : s ∈ A ∨ s ∈ B) : s.i ≠ r.i := by
  rw [List.map_append, List.map_cons, List.nodup_append] at h
  obtain ⟨_, h2, h3⟩ := h
  rcases hs with hs | hs
  · exact h3 s.i (List.mem_map.2 ⟨s, hs, rfl⟩) r.i (by simp)
  · intro he
    rw [List.nodup_cons] at h2
    exact h2.1 (he ▸ List.mem_map.2 ⟨s, hs, rfl⟩)

/-- What an operation that is to come up next looks at reads in the frame as it read in the walk. -/
theorem RI.looks (h : RI P ops ms env0 N w0 p0 n0 K listed a w hist rest env T p) (hpairs : pairsOk ops.toList ms = true) (hanc : ancOk ops.toList ms = true) {i : Nat} {o : Oper} (ho : ops[i]? = some o) (hunl : listed.getD i false = false)
    (hdeps : ∀ d ∈ depsOf o, listed.getD d false = true) {later earlier : List Rec} (hsplit : (∃ r, r.i = i ∧ hist = later ++ r :: earlier) ∨ (later = [] ∧ hist = earlier ∧ i ∉ hist.map (·.i))) {t : Nat} (ht : t ∈ o.looksAt ops) :
    getE (upd ops.toList (hist.filter fun r => listed.getD r.i false) env0) t = getE (upd ops.toList earlier env0) t := by
  have hil : i < ops.toList.length := by simpa using (Array.getElem?_eq_some_iff.1 ho).1
  have hoL : ops.toList[i]? = some o := by rw [Array.getElem?_toList]; exact ho
  have closedL : ∀ j o', listed.getD j false = true → ops.toList[j]? = some o' → ∀ d ∈ depsOf o', listed.getD d false = true := fun j o' hj hoj d hd => h.lcl j o' hj (by rw [← Array.getElem?_toList]; exact hoj) d hd
  -- no writer of t is unordered with i
  have apart : ∀ s ∈ hist, s.i ≠ i → dstAt ops.toList s.i = some t → (ms.getD i 0).testBit s.i = true ∨ (ms.getD s.i 0).testBit i = true := by
    intro s hs hne hd
    cases h1 : (ms.getD i 0).testBit s.i with
    | true => exact .inl rfl
    | false =>
      cases h2 : (ms.getD s.i 0).testBit i with
      | true => exact .inr rfl
      | false =>
        exfalso
        unfold dstAt at hd
        cases hos : ops.toList[s.i]? with
        | none => simp [hos] at hd
        | some os =>
          simp only [hos, Option.bind_some] at hd
          have := (pair_apart hpairs hne hos hoL h1 h2).1 t hd
          exact this (by simpa using ht)
  -- an ancestor of i is listed
  have anc1 : ∀ s, s < ops.toList.length → (ms.getD i 0).testBit s = true → listed.getD s false = true := fun s hs hb => anc_closed hanc (fun x => listed.getD x false = true) closedL i o hoL hdeps s hs hb
  have idxlt : ∀ s ∈ hist, dstAt ops.toList s.i = some t → s.i < ops.toList.length ∧ ∃ os, ops.toList[s.i]? = some os := by
    intro s hs hd
    unfold dstAt at hd
    cases hos : ops.toList[s.i]? with
    | none => simp [hos] at hd
    | some os => exact ⟨(List.getElem?_eq_some_iff.1 hos).1, os, rfl⟩
  -- what i is an ancestor of is not listed
  have anc2 : ∀ s ∈ hist, dstAt ops.toList s.i = some t → (ms.getD s.i 0).testBit i = true → listed.getD s.i false = false := by
    intro s hs hd hb
    obtain ⟨hlt, os, hos⟩ := idxlt s hs hd
    cases hl : listed.getD s.i false with
    | false => rfl
    | true =>
      have := anc_closed hanc (fun x => listed.getD x false = true) closedL s.i os hos (closedL s.i os hl hos) i hil hb
      rw [hunl] at this
      cases this
  -- ancestors lie earlier in the walk
  have anc3 : ∀ (A : List Rec) (s : Rec) (B : List Rec), hist = A ++ s :: B → dstAt ops.toList s.i = some t → (ms.getD s.i 0).testBit i = true → i ∈ B.map (·.i) := by
    intro A s B hAB hd hb
    obtain ⟨hlt, os, hos⟩ := idxlt s (by rw [hAB]; simp) hd
    refine anc_closed hanc (fun x => x ∈ B.map (·.i)) ?_ s.i os hos (fun d hd => h.topo A s B hAB os (by rw [← Array.getElem?_toList]; exact hos) d hd) i hil hb
    intro j oj hj hoj d hd
    obtain ⟨x, hx, rfl⟩ := List.mem_map.1 hj
    obtain ⟨B1, B2, rfl⟩ := mem_split hx
    have := h.topo (A ++ s :: B1) x B2 (by rw [hAB]; simp) oj (by rw [← Array.getElem?_toList]; exact hoj) d hd
    simp only [List.map_append, List.map_cons, List.mem_append, List.mem_cons]
    exact .inr (.inr this)
  rcases hsplit with ⟨r, hri, hsplit⟩ | ⟨_, rfl, hni⟩
  · have hnd := h.nod
    rw [hsplit] at hnd
    have hfil : hist.filter (fun s => (earlier.map (·.i)).contains s.i) = earlier := by
      rw [hsplit, List.filter_append, List.filter_cons]
      have e1 : later.filter (fun s => (earlier.map (·.i)).contains s.i) = [] := by
        rw [List.filter_eq_nil_iff]
        intro s hs hc
        have hc : s.i ∈ earlier.map (·.i) := by simpa using hc
        rw [List.map_append, List.nodup_append] at hnd
        exact hnd.2.2 s.i (List.mem_map.2 ⟨s, hs, rfl⟩) s.i (by simp only [List.map_cons, List.mem_cons]; exact .inr hc) rfl
      have e2 : (earlier.map (·.i)).contains r.i = false := by
        cases hc : (earlier.map (·.i)).contains r.i with
        | false => rfl
        | true =>
          have hc : r.i ∈ earlier.map (·.i) := by simpa using hc
          obtain ⟨x, hx, hxe⟩ := List.mem_map.1 hc
          exact absurd hxe (nodup_mem hnd (.inr hx))
      have e3 : earlier.filter (fun s => (earlier.map (·.i)).contains s.i) = earlier := by
        rw [List.filter_eq_self]
        intro s hs
        simpa using List.mem_map.2 ⟨s, hs, rfl⟩
      rw [e1, e2, e3]
      simp
    rw [← hfil]
    refine upd_agree _ _ _ _ _ hist fun s hs hd => ?_
    by_cases hse : s.i ∈ earlier.map (·.i)
    · rw [show (earlier.map (·.i)).contains s.i = true by simpa using hse]
      have hne : s.i ≠ i := by
        rintro he
        rw [he, ← hri] at hse
        obtain ⟨x, hx, hxe⟩ := List.mem_map.1 hse
        exact nodup_mem hnd (.inr hx) hxe
      rcases apart s hs hne hd with hb | hb
      · exact anc1 s.i (idxlt s hs hd).1 hb
      · exfalso
        obtain ⟨x, hx, hxe⟩ := List.mem_map.1 hse
        obtain ⟨B1, B2, hB⟩ := mem_split hx
        have hxd : dstAt ops.toList x.i = some t := by rw [hxe]; exact hd
        have := anc3 (later ++ r :: B1) x B2 (by rw [hsplit, hB]; simp) hxd (by rw [hxe]; exact hb)
        obtain ⟨y, hy, hye⟩ := List.mem_map.1 this
        exact nodup_mem hnd (.inr (by rw [hB]; simp [hy])) (hye.trans hri.symm)
    · rw [show (earlier.map (·.i)).contains s.i = false by simpa using hse]
      by_cases hne : s.i = i
      · rw [hne]; exact hunl
      · rcases apart s hs hne hd with hb | hb
        · exfalso
          -- s is an ancestor of i: it lies earlier than i in the walk
          have hcl : ∀ j oj, j ∈ earlier.map (·.i) → ops.toList[j]? = some oj → ∀ d ∈ depsOf oj, d ∈ earlier.map (·.i) := by
            intro j oj hj hoj d hd
            obtain ⟨x, hx, rfl⟩ := List.mem_map.1 hj
            obtain ⟨B1, B2, hB⟩ := mem_split hx
            have := h.topo (later ++ r :: B1) x B2 (by rw [hsplit, hB]; simp) oj (by rw [← Array.getElem?_toList]; exact hoj) d hd
            rw [hB]
            simp only [List.map_append, List.map_cons, List.mem_append, List.mem_cons]
            exact .inr (.inr this)
          exact hse (anc_closed hanc (fun x => x ∈ earlier.map (·.i)) hcl i o hoL (fun d hd => h.topo later r earlier hsplit o (by rw [hri]; exact ho) d hd) s.i (idxlt s hs hd).1 hb)
        · exact anc2 s hs hd hb
  · have : hist = hist.filter fun _ => true := (List.filter_eq_self.2 (fun _ _ => rfl)).symm
    rw [show getE (upd ops.toList hist env0) t = getE (upd ops.toList (hist.filter fun _ => true) env0) t by rw [← this]]
    refine upd_agree _ _ _ _ _ hist fun s hs hd => ?_
    have hne : s.i ≠ i := fun he => hni (he ▸ List.mem_map.2 ⟨s, hs, rfl⟩)
    rcases apart s hs hne hd with hb | hb
    · exact anc1 s.i (idxlt s hs hd).1 hb
    · exfalso
      obtain ⟨A, B, hAB⟩ := mem_split hs
      have := anc3 A s B hAB hd hb
      obtain ⟨y, hy, hye⟩ := List.mem_map.1 this
      exact hni (hye ▸ List.mem_map.2 ⟨y, by rw [hAB]; simp [hy], rfl⟩)

end
end Go.Proofs.YtpjkammmoaeheaaDoor.Aw

/- One walk of a region that draws its order serves every order: the step, and the whole. -/
set_option linter.unusedSimpArgs false
set_option linter.unusedVariables false
namespace Go.Proofs.YtpjkammmoaeheaaDoor.Aw
open Go Go.RowKit

section
variable {P : Program} {ops : Array Oper} {ms : List Nat} {env0 : Env} {N : Nat} {w0 : World} {p0 : PMap} {n0 : Nat} {K : Env → AH → Prop} {listed : Array Bool} {a : Act} {w : World} {hist : List Rec} {rest : List Nat} {env : Env} {T : AH} {p : PMap} {Q : Exit → Act → World → Prop}

theorem set_getD {listed : Array Bool} {i : Nat} (hi : i < listed.size) (j : Nat) : (listed.setIfInBounds i true).getD j false = if j = i then true else listed.getD j false := by
  by_cases h : j = i
  · subst h
    simp [hi]
  · rw [if_neg h, getD_set_ne false (Ne.symm h)]

/-- A pending operation has been carried out. -/
theorem RI.carried (h : RI P ops ms env0 N w0 p0 n0 K listed a w hist rest env T p) (hpairs : pairsOk ops.toList ms = true) (hanc : ancOk ops.toList ms = true) {i : Nat} {o : Oper} (ho : ops[i]? = some o) (hunl : listed.getD i false = false) (hil : i < listed.size)
    (hdeps : ∀ d ∈ depsOf o, listed.getD d false = true) (hdo : dstOk N o = true) {later earlier : List Rec} {r : Rec} (hri : r.i = i) (hsplit : hist = later ++ r :: earlier) {p' : PMap} {w' : World} {r' : Value} (hp : p.le p') (hI : Inv w0 p' T w') (hr : ∀ v, r.ov = some v → Rn p' v r') (hpfr : ∀ b, b < n0 → p b = none → p' b = none)
    (hno : ∀ s ∈ hist, s.i ≠ i → listed.getD s.i false = false → ∀ nb v b, s.tag = .flo nb v (some b) → p nb = none → p' nb = none) :
    RI P ops ms env0 N w0 p0 n0 K (listed.setIfInBounds i true) (a.put o.dst r') w' hist rest env T p' := by
  have hnd := h.nod
  rw [hsplit] at hnd
  have hoL : ops.toList[i]? = some o := by rw [Array.getElem?_toList]; exact ho
  have hda : dstAt ops.toList r.i = o.dst := by simp [dstAt, hri, ho]
  have closedL : ∀ j o', listed.getD j false = true → ops.toList[j]? = some o' → ∀ d ∈ depsOf o', listed.getD d false = true := fun j o' hj hoj d hd => h.lcl j o' hj (by rw [← Array.getElem?_toList]; exact hoj) d hd
  -- the filtered walk
  have hfil : hist.filter (fun s => (listed.setIfInBounds i true).getD s.i false) = later.filter (fun s => listed.getD s.i false) ++ r :: earlier.filter (fun s => listed.getD s.i false) := by
    rw [hsplit, List.filter_append, List.filter_cons]
    have e1 : ∀ (l : List Rec), (∀ s ∈ l, s.i ≠ i) → l.filter (fun s => (listed.setIfInBounds i true).getD s.i false) = l.filter (fun s => listed.getD s.i false) := by
      intro l hl
      apply List.filter_congr
      intro s hs
      rw [set_getD hil, if_neg (hl s hs)]
    rw [e1 later (fun s hs => hri ▸ nodup_mem hnd (.inl hs)), e1 earlier (fun s hs => hri ▸ nodup_mem hnd (.inr hs)), set_getD hil, if_pos hri]
    simp
  have hfil0 : hist.filter (fun s => listed.getD s.i false) = later.filter (fun s => listed.getD s.i false) ++ earlier.filter (fun s => listed.getD s.i false) := by
    rw [hsplit, List.filter_append, List.filter_cons, hri, hunl]
    simp
  -- no listed operation behind it in the walk writes its temporary
  have nowr : ∀ t, o.dst = some t → ∀ s ∈ later.filter (fun s => listed.getD s.i false), dstAt ops.toList s.i ≠ some t := by
    intro t ht s hs hd
    obtain ⟨hs1, hs2⟩ := List.mem_filter.1 hs
    have hne : s.i ≠ i := hri ▸ nodup_mem hnd (.inl hs1)
    unfold dstAt at hd
    cases hos : ops.toList[s.i]? with
    | none => simp [hos] at hd
    | some os =>
      simp only [hos, Option.bind_some] at hd
      have hil2 : i < ops.toList.length := (List.getElem?_eq_some_iff.1 hoL).1
      have hsl : s.i < ops.toList.length := (List.getElem?_eq_some_iff.1 hos).1
      have b1 : (ms.getD s.i 0).testBit i = false := by
        cases hb : (ms.getD s.i 0).testBit i with
        | false => rfl
        | true =>
          have := anc_closed hanc (fun x => listed.getD x false = true) closedL s.i os hos (closedL s.i os hs2 hos) i hil2 hb
          rw [hunl] at this
          cases this
      have b2 : (ms.getD i 0).testBit s.i = false := by
        cases hb : (ms.getD i 0).testBit s.i with
        | false => rfl
        | true =>
          exfalso
          have hcl : ∀ j oj, j ∈ earlier.map (·.i) → ops.toList[j]? = some oj → ∀ d ∈ depsOf oj, d ∈ earlier.map (·.i) := by
            intro j oj hj hoj d hd
            obtain ⟨x, hx, rfl⟩ := List.mem_map.1 hj
            obtain ⟨B1, B2, hB⟩ := mem_split hx
            have := h.topo (later ++ r :: B1) x B2 (by rw [hsplit, hB]; simp) oj (by rw [← Array.getElem?_toList]; exact hoj) d hd
            rw [hB]
            simp only [List.map_append, List.map_cons, List.mem_append, List.mem_cons]
            exact .inr (.inr this)
          have hin := anc_closed hanc (fun x => x ∈ earlier.map (·.i)) hcl i o hoL (fun d hd => h.topo later r earlier hsplit o (by rw [hri]; exact ho) d hd) s.i hsl hb
          obtain ⟨y, hy, hye⟩ := List.mem_map.1 hin
          rw [List.map_append, List.nodup_append] at hnd
          exact hnd.2.2 s.i (List.mem_map.2 ⟨s, hs1, rfl⟩) y.i (by simp only [List.map_cons, List.mem_cons]; exact .inr (List.mem_map.2 ⟨y, hy, rfl⟩)) hye.symm
      exact (pair_apart hpairs (Ne.symm hne) hoL hos b1 b2).2 t ht hd
  refine { cont := h.cont, henv := h.henv, chk := h.chk, nod := h.nod, topo := h.topo, inv := hI, ple := h.ple.le_trans hp, pfr := fun b hb hb0 => hpfr b hb (h.pfr b hb hb0), nlen := h.nlen, tm := ?_, sz := by rw [put_size]; exact h.sz, df := by rw [put_defers]; exact h.df, lsz := by simpa using h.lsz, lin := ?_, lcl := ?_, leff := ?_, pend := ?_, uniq := ?_ }
  · intro t v hv
    rw [hfil] at hv
    by_cases hd : o.dst = some t
    · rw [upd_here _ _ _ _ _ (by rw [hda]; exact hd) _ (nowr t hd)] at hv
      have hlt : t < a.tmps.size := by
        rw [h.sz]
        simpa [dstOk, hd] using hdo
      exact ⟨r', by simp [Act.put, hd, hlt], hr v hv⟩
    · rw [upd_drop _ _ _ _ _ (by rw [hda]; exact hd), ← hfil0] at hv
      obtain ⟨x, h1, h2⟩ := h.tm t v hv
      refine ⟨x, ?_, h2.mono hp⟩
      cases hdd : o.dst with
      | none => exact h1
      | some d =>
        simp only [Act.put]
        rw [Array.getElem?_setIfInBounds_ne (by rintro rfl; exact hd hdd)]
        exact h1
  · intro j hj
    rw [set_getD hil] at hj
    split at hj
    · rename_i he
      rw [he, hsplit, ← hri]
      simp
    · exact h.lin j hj
  · intro j o' hj hoj d hd
    rw [set_getD hil] at hj ⊢
    split
    · rfl
    · split at hj
      · rename_i he
        subst he
        rw [ho] at hoj
        injection hoj with hoj
        subst hoj
        exact hdeps d hd
      · exact h.lcl j o' hj hoj d hd
  · intro s hs ht
    rw [set_getD hil]
    split
    · rfl
    · exact h.leff s hs ht
  · intro l2 s e2 hs2 hl
    rw [set_getD hil] at hl
    split at hl
    · cases hl
    · rename_i hne
      obtain ⟨h1, o2, h2, h3⟩ := h.pend l2 s e2 hs2 hl
      refine ⟨h1, o2, h2, ?_⟩
      cases ht : s.tag with
      | idle => simpa [ht] using h3
      | eff => simp [ht] at h3
      | flo nb v ob =>
        simp only [ht] at h3 ⊢
        obtain ⟨g1, g2, g3, g4, g5⟩ := h3
        refine ⟨g1, g2, g3, g4, fun b hb => ⟨(g5 b hb).1, ?_, (g5 b hb).2.2⟩⟩
        subst hb
        exact hno s (by rw [hs2]; simp) hne hl nb v b ht (g5 b rfl).2.1
  · intro x y hx hy hne hxl hyl
    rw [set_getD hil] at hxl hyl
    split at hxl
    · cases hxl
    · split at hyl
      · cases hyl
      · exact h.uniq x y hx hy hne hxl hyl

theorem RI.step (h : RI P ops ms env0 N w0 p0 n0 K listed a w hist rest env T p) (hpairs : pairsOk ops.toList ms = true) (hanc : ancOk ops.toList ms = true) (hd : ∀ o ∈ ops.toList, dstOk N o = true) (hrest : Rests ops rest) {i : Nat} (hi : i ∈ Region.ready .any ops listed) :
    wpOp P ops Q i (fun a' w' => ∃ hist rest env T p, RI P ops ms env0 N w0 p0 n0 K (listed.setIfInBounds i true) a' w' hist rest env T p ∧ Rests ops rest) a w := by
  obtain ⟨hl0, o, ho, hall⟩ := mem_ready.1 hi
  have hil : i < listed.size := by rw [h.lsz]; exact (Array.getElem?_eq_some_iff.1 ho).1
  have hunl : listed.getD i false = false := by
    simpa [hil] using hl0
  have hoL : ops.toList[i]? = some o := by rw [Array.getElem?_toList]; exact ho
  have hdo : dstOk N o = true := hd o (List.mem_of_getElem? hoL)
  have hdeps : ∀ d ∈ depsOf o, listed.getD d false = true := by
    intro d hdm
    obtain ⟨e, he, rfl⟩ := List.mem_map.1 hdm
    obtain ⟨he1, he2⟩ := List.mem_filter.1 he
    exact hall e (by simpa using he1) he2
  unfold wpOp
  simp only [ho]
  by_cases hin : i ∈ hist.map (·.i)
  · -- it was met before
    obtain ⟨r, hrm, hri⟩ := List.mem_map.1 hin
    obtain ⟨later, earlier, hsplit⟩ := mem_split hrm
    obtain ⟨henv, o2, ho2, hpend⟩ := h.pend later r earlier hsplit (by rw [hri]; exact hunl)
    rw [hri, hoL] at ho2
    injection ho2 with ho2
    subst ho2
    have hlook : ∀ t ∈ o.looksAt ops, ∀ v, getE r.env t = some v → ∃ x, a.tmps[t]? = some x ∧ Rn p v x := by
      intro t ht v hv
      refine h.tm t v ?_
      rw [h.looks hpairs hanc ho hunl hdeps (.inl ⟨r, hri, hsplit⟩) ht, ← henv]
      exact hv
    have hguard : ∀ j wnt t, o.guard = some (j, wnt) → (ops[j]?).bind (·.dst) = some t → ∀ v, getE r.env t = some v → ∃ x, a.tmps[t]? = some x ∧ Rn p v x := fun j wnt t hg hdj v hv => hlook t (guard_looks hg hdj) v hv
    cases ht : r.tag with
    | eff => simp [ht] at hpend
    | idle =>
      simp only [ht] at hpend
      rw [idle_run hpend.1 hguard]
      simp only [Bool.false_eq_true, if_false]
      refine ⟨hist, rest, env, T, p, h.carried hpairs hanc ho hunl hil hdeps hdo hri hsplit (PMap.le_refl p) h.inv (fun v hv => ?_) (fun _ _ hn => hn) (fun _ _ _ _ _ _ _ _ hn => hn), hrest⟩
      rw [hpend.2] at hv
      injection hv with hv
      subst hv
      exact undef_rn p
    | flo nb v ob =>
      simp only [ht] at hpend
      obtain ⟨g1, g2, g3, g4, g5⟩ := hpend
      rw [want_run g1 hguard]
      simp only [if_true]
      refine .inl ?_
      -- with a number that nothing maps to
      obtain ⟨nb2, hn2, hf2, hb2, hlen, hn0⟩ : ∃ nb2, p nb2 = none ∧ fop P (ev r.env) T nb2 o.op = some (v, ob) ∧ (∀ b, ob = some b → nb2 = nb) ∧ (ob = none → ¬ nb2 < T.length) ∧ n0 ≤ nb2 := by
        cases ob with
        | none => exact ⟨T.length, h.none_len, fop_nb g4 _, (fun b hb => by cases hb), fun _ => Nat.lt_irrefl _, h.nlen⟩
        | some b => exact ⟨nb, (g5 b rfl).2.1, g4, fun _ _ => rfl, (fun hb => by cases hb), (g5 b rfl).2.2⟩
      rw [fop_congr (e' := evR (o.looksAt ops) r.env) evR_same] at hf2
      obtain ⟨x, w', p', k1, k2, k3, k4, k5⟩ := fop_sound (ρ := a.eval) h.inv h.inv (evR_rn hlook) hn2 hf2 (fun b hb => by rw [hb2 b hb]; exact (g5 b hb).1)
      unfold Oper.wp
      rw [k1]
      refine ⟨hist, rest, env, T, p', h.carried hpairs hanc ho hunl hil hdeps hdo hri hsplit k2 k5 (fun v' hv => ?_) (fun b hb hbn => by rw [k3 b (by omega)]; exact hbn) (fun s hs hne hsl nb' v' b' hst hn => ?_), hrest⟩
      · rw [g3] at hv
        injection hv with hv
        subst hv
        exact k4
      · by_cases he : nb' = nb2
        · subst he
          cases ob with
          | none =>
            -- a number that is behind all blocks
            cases hpx : p' nb' with
            | none => rfl
            | some e =>
              exfalso
              obtain ⟨A, B, hAB⟩ := mem_split hs
              obtain ⟨_, o3, _, h3⟩ := h.pend A s B hAB hsl
              simp only [hst] at h3
              have h4 := (List.getElem?_eq_some_iff.1 (h3.2.2.2.2 b' rfl).1).1
              exact absurd h4 (hlen rfl)
          | some b =>
            have := h.uniq r s hrm hs (by rw [hri]; exact Ne.symm hne) (by rw [hri]; exact hunl) hsl nb v b nb' v' b' ht hst
            exact absurd (hb2 b rfl).symm (by intro hh; exact this (by rw [hh]))
        · rw [k3 nb' he]; exact hn
  · -- it is the next that writes
    have hchk := h.chk
    have hidx : ∀ d ∈ depsOf o, d ∈ hist.map (·.i) := fun d hdm => h.lin d (hdeps d hdm)
    have hnr : notReady ops.toList (hist.map (·.i)) i = false := by
      unfold notReady
      rw [hoL]
      simp only
      rw [List.any_eq_false]
      intro d hdm
      have : (hist.map (·.i)).contains d = true := by simpa using hidx d hdm
      simp only [this, Bool.not_true, Bool.false_eq_true, not_false_eq_true]
    have hlt : i < ops.toList.length := (List.getElem?_eq_some_iff.1 hoL).1
    rcases hrest with rfl | ⟨i2, rest2, o2, rfl, ho2, heff⟩
    · exfalso
      simp only [ordChk] at hchk
      have := List.all_eq_true.1 hchk i (List.mem_range.2 hlt)
      exact hin (by simpa using this)
    · have hie : i2 = i := by
        simp only [ordChk, Bool.and_eq_true] at hchk
        have ho2L : ops.toList[i2]? = some o2 := by rw [Array.getElem?_toList]; exact ho2
        rw [ho2L] at hchk
        simp only [Bool.and_eq_true, heff, Bool.not_true, Bool.false_or] at hchk
        have := List.all_eq_true.1 hchk.1.2 i (List.mem_range.2 hlt)
        rw [hnr] at this
        simp only [Bool.or_false, Bool.or_eq_true, beq_iff_eq] at this
        rcases this with he | he
        · exact he.symm
        · exact absurd (by simpa using he) hin
      subst hie
      rw [ho] at ho2
      injection ho2 with ho2
      subst ho2
      have hcont := h.cont
      simp only [drawA, hoL] at hcont
      obtain ⟨env1, he1, hg⟩ := gate_cases hcont
      have hlook : ∀ t ∈ o.looksAt ops, ∀ v, getE env1 t = some v → ∃ x, a.tmps[t]? = some x ∧ Rn p v x := by
        intro t ht v hv
        refine h.tm t v ?_
        rw [h.looks hpairs hanc ho hunl hdeps (.inr ⟨rfl, rfl, hin⟩) ht, ← h.henv, ← he1]
        exact hv
      have hguard : ∀ j wnt t, o.guard = some (j, wnt) → (ops[j]?).bind (·.dst) = some t → ∀ v, getE env1 t = some v → ∃ x, a.tmps[t]? = some x ∧ Rn p v x := fun j wnt t hg hdj v hv => hlook t (guard_looks hg hdj) v hv
      have hda : dstAt ops.toList i2 = o.dst := by simp [dstAt, hoL]
      have hchk2 : ordChk ops.toList (i2 :: hist.map (·.i)) rest2 = true := by
        simp only [ordChk, Bool.and_eq_true] at hchk
        exact hchk.2
      -- what both ways share
      have share : ∀ (ov : Option V) (tag : Tag) (T2 : AH) (p2 : PMap) (w2 : World) (x : Value), tag ≠ .idle ∨ True → (∀ nb v ob, tag ≠ .flo nb v ob) → Inv w0 p2 T2 w2 → p.le p2 → ((∀ b, b < T.length → p b = none → p2 b = none) ∧ T.length ≤ T2.length) → (∀ v, ov = some v → Rn p2 v x) →
          drawA P ops.toList ms rest2 (logOf P ops.toList hist) (setO env1 o.dst ov) T2 K →
          (∀ r ∈ hist, listed.getD r.i false = false → PendOK P ops.toList n0 T p r → PendOK P ops.toList n0 T2 p2 r) →
          ∃ hist rest env T p, RI P ops ms env0 N w0 p0 n0 K (listed.setIfInBounds i2 true) (a.put o.dst x) w2 hist rest env T p ∧ Rests ops rest := by
        intro ov tag T2 p2 w2 x _ htag hI2 hp2 hq hx hdr hpo
        have hfil : (Rec.mk i2 env1 ov tag :: hist).filter (fun s => (listed.setIfInBounds i2 true).getD s.i false) = Rec.mk i2 env1 ov tag :: hist.filter (fun s => listed.getD s.i false) := by
          rw [List.filter_cons]
          simp only [set_getD hil, if_true]
          congr 1
          apply List.filter_congr
          intro s hs
          have hne : s.i ≠ i2 := fun he => hin (List.mem_map.2 ⟨s, hs, he⟩)
          rw [if_neg hne]
        have hnew : RI P ops ms env0 N w0 p0 n0 K (listed.setIfInBounds i2 true) (a.put o.dst x) w2 (Rec.mk i2 env1 ov tag :: hist) rest2 (setO env1 o.dst ov) T2 p2 := by
          refine { cont := ?_, henv := ?_, chk := hchk2, nod := ?_, topo := ?_, inv := hI2, ple := h.ple.le_trans hp2, pfr := fun b hb hb0 => hq.1 b (by have := h.nlen; omega) (h.pfr b hb hb0), nlen := Nat.le_trans h.nlen hq.2, tm := ?_, sz := by rw [put_size]; exact h.sz, df := by rw [put_defers]; exact h.df, lsz := by simpa using h.lsz, lin := ?_, lcl := ?_, leff := ?_, pend := ?_, uniq := ?_ }
          · have : logOf P ops.toList (Rec.mk i2 env1 ov tag :: hist) = logOf P ops.toList hist := by
              simp only [logOf]
              split
              · rename_i nb v ob _ hts _
                exact absurd rfl (htag _ _ _)
              · rfl
            rw [this]
            exact hdr
          · intro t
            rw [upd_get, getE_setO, hda, he1, h.henv]
          · simpa using ⟨by simpa using hin, h.nod⟩
          · intro later r earlier hsplit o3 ho3 d hd3
            cases later with
            | nil =>
              simp only [List.nil_append, List.cons.injEq] at hsplit
              obtain ⟨rfl, rfl⟩ := hsplit
              simp only at ho3
              rw [ho] at ho3
              injection ho3 with ho3
              subst ho3
              exact hidx d hd3
            | cons y later =>
              simp only [List.cons_append, List.cons.injEq] at hsplit
              exact h.topo later r earlier hsplit.2 o3 ho3 d hd3
          · rw [hfil]
            intro t v hv
            rw [upd_get, hda] at hv
            by_cases hdt : o.dst = some t
            · rw [if_pos hdt] at hv
              have hlt : t < a.tmps.size := by rw [h.sz]; simpa [dstOk, hdt] using hdo
              exact ⟨x, by simp [Act.put, hdt, hlt], hx v hv⟩
            · rw [if_neg hdt] at hv
              obtain ⟨y, h1, h2⟩ := h.tm t v hv
              refine ⟨y, ?_, h2.mono hp2⟩
              cases hdd : o.dst with
              | none => exact h1
              | some d =>
                simp only [Act.put]
                rw [Array.getElem?_setIfInBounds_ne (by rintro rfl; exact hdt hdd)]
                exact h1
          · intro j hj
            rw [set_getD hil] at hj
            split at hj
            · rename_i he; simp [he]
            · simp [h.lin j hj]
          · intro j o3 hj hoj d hd3
            rw [set_getD hil] at hj ⊢
            split
            · rfl
            · split at hj
              · rename_i he
                subst he
                rw [ho] at hoj
                injection hoj with hoj
                subst hoj
                exact hdeps d hd3
              · exact h.lcl j o3 hj hoj d hd3
          · intro s hs ht
            rw [set_getD hil]
            split
            · rfl
            · rename_i hne
              rcases List.mem_cons.1 hs with rfl | hs
              · exact absurd rfl hne
              · exact h.leff s hs ht
          · intro later r earlier hsplit hl
            rw [set_getD hil] at hl
            split at hl
            · cases hl
            · rename_i hne
              cases later with
              | nil =>
                simp only [List.nil_append, List.cons.injEq] at hsplit
                obtain ⟨rfl, rfl⟩ := hsplit
                exact absurd rfl hne
              | cons y later =>
                simp only [List.cons_append, List.cons.injEq] at hsplit
                obtain ⟨h1, h2⟩ := h.pend later r earlier hsplit.2 hl
                exact ⟨h1, hpo r (by rw [hsplit.2]; simp) hl h2⟩
          · intro r s hr hs hne hrl hsl
            rw [set_getD hil] at hrl hsl
            split at hrl
            · cases hrl
            · rename_i hr2
              split at hsl
              · cases hsl
              · rename_i hs2
                rcases List.mem_cons.1 hr with rfl | hr
                · exact absurd rfl hr2
                · rcases List.mem_cons.1 hs with rfl | hs
                  · exact absurd rfl hs2
                  · exact h.uniq r s hr hs hne hrl hsl
        obtain ⟨h2, r2, e2, T3, h3, h4⟩ := RI.advance hd rest2 hnew
        exact ⟨h2, r2, e2, T3, p2, h3, h4⟩
      have closedL : ∀ j o', listed.getD j false = true → ops.toList[j]? = some o' → ∀ d ∈ depsOf o', listed.getD d false = true := fun j o' hj hoj d hd => h.lcl j o' hj (by rw [← Array.getElem?_toList]; exact hoj) d hd
      rcases hg with ⟨hw, hy⟩ | ⟨hidle, hno⟩
      · rw [want_run hw hguard]
        simp only [if_true]
        rw [if_pos heff] at hy
        refine .inl ?_
        rw [eop_congr (e' := evR (o.looksAt ops) env1) evR_same] at hy
        refine eop_sound h.inv (evR_rn hlook) hy fun ov H' p' w' x hK hp' hfr hI' hx => ?_
        obtain ⟨hdr, hall⟩ := chkAll_get hK
        refine share ov .eff H' p' w' x (.inr trivial) (by simp) hI' hp' hfr hx hdr fun r hr hrl hpn => ?_
        obtain ⟨o3, ho3, hpn⟩ := hpn
        refine ⟨o3, ho3, ?_⟩
        cases ht : r.tag with
        | idle => simpa [ht] using hpn
        | eff => simp [ht] at hpn
        | flo nb v ob =>
          simp only [ht] at hpn ⊢
          obtain ⟨g1, g2, g3, g4, g5⟩ := hpn
          have hnb : (ms.getD i2 0).testBit r.i = false := by
            cases hb : (ms.getD i2 0).testBit r.i with
            | false => rfl
            | true =>
              have hrlt : r.i < ops.toList.length := (List.getElem?_eq_some_iff.1 ho3).1
              have := anc_closed hanc (fun x => listed.getD x false = true) closedL i2 o hoL hdeps r.i hrlt hb
              rw [hrl] at this
              cases this
          obtain ⟨q1, q2⟩ := hall r hr hnb nb v ob ht o3 ho3
          refine ⟨g1, g2, g3, ?_, fun b hb => ⟨q2 b hb, hfr.1 nb (List.getElem?_eq_some_iff.1 (g5 b hb).1).1 (g5 b hb).2.1, (g5 b hb).2.2⟩⟩
          by_cases hrd : readsH P o3.op = true
          · exact q1 hrd
          · rw [← fop_still (by simpa using hrd) H']
            exact g4
      · rw [idle_run hidle hguard]
        simp only [Bool.false_eq_true, if_false]
        exact share (some (.tup [])) .idle T p w undef (.inr trivial) (by simp) h.inv (PMap.le_refl p) ⟨fun _ _ hb => hb, Nat.le_refl _⟩ (fun v hv => by injection hv with hv; subst hv; exact undef_rn p) hno (fun r _ _ hr => hr)

theorem RI.finish (h : RI P ops ms env0 N w0 p0 n0 K listed a w hist rest env T p) (hrest : Rests ops rest) (hr : Region.ready .any ops listed = []) : K env T ∧ St w0 p0 n0 N env T a w := by
  -- all that were met are listed
  have notr : ∀ i o, ops[i]? = some o → listed.getD i false = false → (∀ d ∈ depsOf o, listed.getD d false = true) → False := by
    intro i o ho hl hd
    have : i ∈ Region.ready .any ops listed := by
      rw [mem_ready]
      have hil : i < listed.size := by rw [h.lsz]; exact (Array.getElem?_eq_some_iff.1 ho).1
      refine ⟨by simpa [hil] using hl, o, ho, fun e he hb => ?_⟩
      exact hd e.on (List.mem_map.2 ⟨e, List.mem_filter.2 ⟨by simpa using he, hb⟩, rfl⟩)
    rw [hr] at this
    cases this
  have all : ∀ (later earlier : List Rec), hist = later ++ earlier → ∀ r ∈ earlier, listed.getD r.i false = true := by
    intro later earlier
    induction earlier generalizing later with
    | nil => intro _ r hr; cases hr
    | cons s e ih =>
      intro hs r hr
      have ih' := ih (later ++ [s]) (by rw [hs]; simp)
      rcases List.mem_cons.1 hr with rfl | hr
      · cases hl : listed.getD r.i false with
        | true => rfl
        | false =>
          exfalso
          obtain ⟨_, o, ho, _⟩ := h.pend later r e hs hl
          refine notr r.i o (by rw [← Array.getElem?_toList]; exact ho) hl fun d hd => ?_
          have := h.topo later r e hs o (by rw [← Array.getElem?_toList]; exact ho) d hd
          obtain ⟨y, hy, rfl⟩ := List.mem_map.1 this
          exact ih' y hy
      · exact ih' r hr
  have allh : ∀ r ∈ hist, listed.getD r.i false = true := fun r hr => all [] hist rfl r hr
  have hrn : rest = [] := by
    rcases hrest with rfl | ⟨i, rest2, o, rfl, ho, heff⟩
    · rfl
    · exfalso
      have hoL : ops.toList[i]? = some o := by rw [Array.getElem?_toList]; exact ho
      have hchk := h.chk
      simp only [ordChk, Bool.and_eq_true] at hchk
      rw [hoL] at hchk
      simp only [Bool.and_eq_true, Bool.not_eq_true'] at hchk
      refine notr i o ho ?_ fun d hd => ?_
      · cases hl : listed.getD i false with
        | false => rfl
        | true =>
          have h1 := h.lin i hl
          have h2 := hchk.1.1.2
          rw [show (hist.map (·.i)).contains i = true by simpa using h1] at h2
          cases h2
      · have := List.all_eq_true.1 hchk.1.1.1 d hd
        have : d ∈ hist.map (·.i) := by simpa using this
        obtain ⟨y, hy, rfl⟩ := List.mem_map.1 this
        exact allh y hy
  subst hrn
  refine ⟨by simpa [drawA] using h.cont, ⟨p, h.inv, ?_, h.ple, h.pfr⟩, h.nlen, h.sz, h.df⟩
  have htm := h.tm
  rw [List.filter_eq_self.2 allh] at htm
  exact htm.congr h.henv

theorem RI.run (hpairs : pairsOk ops.toList ms = true) (hanc : ancOk ops.toList ms = true) (hd : ∀ o ∈ ops.toList, dstOk N o = true) (hK : ∀ env H a w, K env H → St w0 p0 n0 N env H a w → Q .normal a w) : ∀ (fuel : Nat) (listed : Array Bool) (a : Act) (w : World),
    (listed.toList.filter (· == false)).length ≤ fuel → (∃ hist rest env T p, RI P ops ms env0 N w0 p0 n0 K listed a w hist rest env T p ∧ Rests ops rest) → wpAny P .any ops Q fuel listed a w
  | 0, listed, a, w, hf, ⟨hist, rest, env, T, p, h, hr⟩ => by
    have hready : Region.ready .any ops listed = [] := by
      cases hx : Region.ready .any ops listed with
      | nil => rfl
      | cons i l =>
        exfalso
        have hi : i ∈ Region.ready .any ops listed := by rw [hx]; simp
        obtain ⟨hl0, o, ho, _⟩ := mem_ready.1 hi
        have hil : i < listed.size := by rw [h.lsz]; exact (Array.getElem?_eq_some_iff.1 ho).1
        have hl : listed[i] = false := by simpa [hil] using hl0
        have : false ∈ listed.toList.filter (· == false) := by
          rw [List.mem_filter]
          exact ⟨by rw [← hl]; simp, by simp⟩
        have := List.length_pos_of_mem this
        omega
    obtain ⟨h1, h2⟩ := h.finish hr hready
    exact ⟨hready, hK _ _ _ _ h1 h2⟩
  | fuel + 1, listed, a, w, hf, ⟨hist, rest, env, T, p, h, hr⟩ => by
    refine ⟨fun hready => ?_, fun i hi => ?_⟩
    · obtain ⟨h1, h2⟩ := h.finish hr hready
      exact hK _ _ _ _ h1 h2
    · refine wpOp_mono (fun a' w' hh => RI.run hpairs hanc hd hK fuel _ a' w' ?_ hh) (h.step hpairs hanc hd hr hi)
      obtain ⟨hl0, o, ho, _⟩ := mem_ready.1 hi
      have hil : i < listed.size := by rw [h.lsz]; exact (Array.getElem?_eq_some_iff.1 ho).1
      have hl : listed.toList[i]? = some false := by
        rw [Array.getElem?_toList]
        have : listed[i] = false := by simpa [hil] using hl0
        simp [hil, this]
      have key : ∀ (l : List Bool) (i : Nat), l[i]? = some false → ((l.set i true).filter (· == false)).length + 1 = (l.filter (· == false)).length := by
        intro l
        induction l with
        | nil => intro i h; simp at h
        | cons b l ih =>
          intro i h
          cases i with
          | zero => simp at h; subst h; simp
          | succ i =>
            have := ih i (by simpa using h)
            cases b <;> simp [List.filter_cons] at this ⊢ <;> omega
      have := key listed.toList i hl
      rw [Array.toList_setIfInBounds]
      omega

/-- THE REGION. -/
theorem drawA_sound {id : Nat} {ord : List Nat} (hm : P.follows .mixedOrders = true) (hok : drawOk N ops.toList ord ms = true) (hs : St w0 p0 n0 N env0 T a w) (h : drawA P ops.toList ms ord [] env0 T K)
    (hK : ∀ env H a w, K env H → St w0 p0 n0 N env H a w → Q .normal a w) : (Code.region id ops true).wp P Q a w := by
  unfold drawOk at hok
  simp only [Bool.and_eq_true] at hok
  obtain ⟨⟨⟨⟨hanc, hpairs⟩, hord⟩, hdst⟩, hsel⟩ := hok
  have hd : ∀ o ∈ ops.toList, dstOk N o = true := fun o ho => List.all_eq_true.1 hdst o ho
  obtain ⟨⟨p, hI, hE, hle, hfr⟩, hlen, hsz, hdf⟩ := hs
  refine wp_region_any hm (RI.run (env0 := env0) (ms := ms) hpairs hanc hd hK ops.size _ a _ ?_ ?_)
  · rw [Array.toList_replicate]
    exact Nat.le_trans (List.length_filter_le _ _) (by simp)
  · have h0 : RI P ops ms env0 N w0 p0 n0 K (Array.replicate ops.size false) a { w with drawn := w.drawn + 1 } [] ord env0 T p := by
      have hff : ∀ j, (Array.replicate ops.size false).getD j false = false := by
        intro j
        by_cases hj : j < ops.size <;> simp [hj]
      exact { cont := h, henv := fun _ => rfl, chk := hord, nod := by simp, topo := (by intro l r e hs; simp at hs), inv := hI.drew, ple := hle, pfr := hfr, nlen := hlen, tm := hE, sz := hsz, df := hdf, lsz := by simp,
              lin := (fun j hj => by rw [hff] at hj; cases hj), lcl := (fun j o hj => by rw [hff] at hj; cases hj), leff := by simp, pend := (by intro l r e hs; simp at hs), uniq := by simp }
    obtain ⟨h1, r1, e1, T1, h2, h3⟩ := RI.advance hd ord h0
    exact ⟨h1, r1, e1, T1, p, h2, h3⟩

end
end Go.Proofs.YtpjkammmoaeheaaDoor.Aw

/- The calculus for code, and for calls. -/
set_option linter.unusedSimpArgs false
set_option linter.unusedVariables false
namespace Go.Proofs.YtpjkammmoaeheaaDoor.Aw
open Go Go.RowKit

/-! ### What is read later -/
def addL : List Nat → List Nat → List Nat
  | l, [] => l
  | l, x :: r => if l.contains x then addL l r else addL (x :: l) r

def tmpsOf : List Operand → List Nat
  | [] => []
  | .tmp t :: r => t :: tmpsOf r
  | _ :: r => tmpsOf r

def looksL (ops : List Oper) (o : Oper) : List Nat :=
  match o.guard with
  | some (j, _) => match (ops[j]?).bind (·.dst) with
    | some t => t :: tmpsOf o.op.operands.toList
    | none => tmpsOf o.op.operands.toList
  | none => tmpsOf o.op.operands.toList

def killL (d : Option Nat) (l : List Nat) : List Nat :=
  match d with
  | some t => l.filter fun x => x != t
  | none => l

def opsLive (ops : List Oper) : List Oper → List Nat → List Nat
  | [], l => l
  | o :: r, l => addL (killL o.dst (opsLive ops r l)) (looksL ops o)

def exitL : List (Nat × List Nat) → Nat → List Nat
  | [], _ => []
  | (i, l) :: r, x => if i == x then l else exitL r x

def liveC (ret : List Nat) : Code → List (Nat × List Nat) → List Nat → List Nat
  | .skip, _, out => out
  | .region _ ops _, _, out => opsLive ops.toList ops.toList out
  | .seq a b, ex, out => liveC ret a ex (liveC ret b ex out)
  | .cond c a b, ex, out => addL (addL (liveC ret a ex out) (liveC ret b ex out)) (tmpsOf [c])
  | .block id c, ex, out => liveC ret c ((id, out) :: ex) out
  | .loop c, ex, _ => liveC ret c ex (liveC ret c ex (liveC ret c ex []))
  | .exit id, ex, _ => exitL ex id
  | .ret, _, _ => ret
  | _, _, _ => []

/-! ### The calculus -/
inductive AEx where
  | normal
  | exit (id : Nat)
  | ret

abbrev APost := AEx → Env → AH → Prop

def LoopN (F : Env → AH → (Env → AH → Prop) → Prop) : Nat → Env → AH → Prop
  | 0, _, _ => False
  | n + 1, env, H => F env H (LoopN F n)

def LoopA (F : Env → AH → (Env → AH → Prop) → Prop) (env : Env) (H : AH) : Prop := ∃ n, LoopN F n env H

/-- A region in which nothing is asked. -/
def isRegion : Code → Bool
  | .region _ ops _ => ops.toList.all fun o => o.guard.isNone
  | _ => false

/-- A part of a code by its place: 0 the first, 1 the second. -/
def cAt : List Nat → Code → Code
  | [], c => c
  | 0 :: r, .seq a _ => cAt r a
  | _ :: r, .seq _ b => cAt r b
  | 0 :: r, .cond _ a _ => cAt r a
  | _ :: r, .cond _ _ b => cAt r b
  | _ :: r, .block _ c => cAt r c
  | _ :: r, .loop c => cAt r c
  | _, _ => .skip

def AW (P : Program) (N : Nat) (ret : List Nat) : Code → List (Nat × List Nat) → List Nat → Env → AH → APost → Prop
  | .skip, _, _, env, H, Q => Q .normal env H
  | .region _ ops true, _, _, env, H, Q =>
    match drawOk N ops.toList (ordOf ops.toList ops.toList.length []) (masks ops.toList []) with
    | true => drawA P ops.toList (masks ops.toList []) (ordOf ops.toList ops.toList.length []) [] env H (Q .normal)
    | false => False
  | .region _ ops false, _, _, env, H, Q =>
    match ops.toList.all (dstOk N) with
    | true => seqA P ops.toList ops.toList env H (Q .normal)
    | false => False
  | .seq a b, ex, out, env, H, Q =>
    AW P N ret a ex (liveC ret b ex out) env H fun e env' H' => match e with
      | .normal => AW P N ret b ex out (match isRegion a with | true => env' | false => keepE env' (liveC ret b ex out)) H' Q
      | .exit i => Q (.exit i) env' H'
      | .ret => Q .ret env' H'
  | .cond c a b, ex, out, env, H, Q =>
    match ev env c with
    | some (.bool t) => splitB t (AW P N ret a ex out env H Q) (AW P N ret b ex out env H Q)
    | _ => False
  | .block id c, ex, out, env, H, Q =>
    AW P N ret c ((id, out) :: ex) out env H fun e env' H' => match e with
      | .normal => Q .normal env' H'
      | .exit i => match Nat.beq i id with | true => Q .normal env' H' | false => Q (.exit i) env' H'
      | .ret => Q .ret env' H'
  | .loop c, ex, out, env, H, Q =>
    LoopA (fun env1 H1 K => AW P N ret c ex (liveC ret (.loop c) ex out) env1 H1 fun e env' H' => match e with
      | .normal => K (keepE env' (liveC ret (.loop c) ex out)) H'
      | .exit i => Q (.exit i) env' H'
      | .ret => Q .ret env' H') (keepE env (liveC ret (.loop c) ex out)) H
  | .exit id, _, _, env, H, Q => Q (.exit id) env H
  | .ret, _, _, env, H, Q => Q .ret env H
  | _, _, _, _, _, _ => False

def AEx.to : AEx → Exit
  | .normal => .normal
  | .exit i => .exit i
  | .ret => .ret

section
variable {P : Program} {w0 : World} {p0 : PMap} {n0 N : Nat}

theorem St.keep {env : Env} {H : AH} {a : Act} {w : World} (h : St w0 p0 n0 N env H a w) (l : List Nat) : St w0 p0 n0 N (keepE env l) H a w := by
  obtain ⟨⟨p, h1, h2, h3, h4⟩, h5, h6, h7⟩ := h
  exact ⟨⟨p, h1, fun t v hv => h2 t v (getE_keep _ _ _ _ hv), h3, h4⟩, h5, h6, h7⟩

theorem ev_bool {env : Env} {H : AH} {a : Act} {w : World} (h : St w0 p0 n0 N env H a w) {c : Operand} {t : Bool} (hc : ev env c = some (.bool t)) : a.eval c = .bool t := by
  obtain ⟨⟨p, _, h2, _⟩, _⟩ := h
  have := ev_rn h2 c _ hc
  simpa [Rn] using this

theorem AW_sound (hm : P.follows .mixedOrders = true) (ret : List Nat) : ∀ (c : Code) (ex : List (Nat × List Nat)) (out : List Nat) (env : Env) (H : AH) (Q' : APost) (Q : Exit → Act → World → Prop) (a : Act) (w : World),
    St w0 p0 n0 N env H a w → AW P N ret c ex out env H Q' → (∀ e env H a w, Q' e env H → St w0 p0 n0 N env H a w → Q e.to a w) → c.wp P Q a w := by
  intro c
  induction c with
  | skip => intro ex out env H Q' Q a w hs h hQ; exact wp_skip (hQ .normal _ _ _ _ h hs)
  | region id ops draw =>
    intro ex out env H Q' Q a w hs h hQ
    cases draw with
    | true =>
      simp only [AW] at h
      split at h
      · rename_i hok
        exact drawA_sound hm hok hs h fun env H a w hk hs => hQ .normal _ _ _ _ hk hs
      · exact h.elim
    | false =>
      simp only [AW] at h
      split at h
      · rename_i hok
        refine wp_region ?_
        have := seqA_sound (Q := Q) (ops := ops) (N := N) (fun o ho => List.all_eq_true.1 hok o ho) (fun env H a w hk hs => hQ .normal _ _ _ _ hk hs) ops.toList 0 env H a w (by simp) hs h
        simpa using this
      · exact h.elim
  | seq x y ihx ihy =>
    intro ex out env H Q' Q a w hs h hQ
    simp only [AW] at h
    refine wp_seq (ihx ex _ env H _ _ a w hs h ?_)
    intro e env2 H2 a2 w2 hk hs2
    cases e with
    | normal =>
      simp only at hk
      refine ihy ex out _ H2 Q' Q a2 w2 ?_ hk hQ
      cases isRegion x
      · exact hs2.keep _
      · exact hs2
    | exit i => exact hQ (.exit i) _ _ _ _ hk hs2
    | ret => exact hQ .ret _ _ _ _ hk hs2
  | cond c x y ihx ihy =>
    intro ex out env H Q' Q a w hs h hQ
    simp only [AW] at h
    split at h
    · rename_i t hc
      refine wp_cond (ev_bool hs hc) ?_
      cases t
      · exact ihy ex out env H Q' Q a w hs h hQ
      · exact ihx ex out env H Q' Q a w hs h hQ
    · exact h.elim
  | block id c ih =>
    intro ex out env H Q' Q a w hs h hQ
    simp only [AW] at h
    refine wp_block (ih _ _ env H _ _ a w hs h ?_)
    intro e env2 H2 a2 w2 hk hs2
    cases e with
    | normal => exact hQ .normal _ _ _ _ hk hs2
    | exit i =>
      simp only [AEx.to, Exit.inBlock] at hk ⊢
      split at hk
      · rename_i he
        rw [if_pos (Nat.eq_of_beq_eq_true he)]
        exact hQ .normal _ _ _ _ hk hs2
      · rename_i he
        rw [if_neg (Nat.ne_of_beq_eq_false he)]
        exact hQ (.exit i) _ _ _ _ hk hs2
    | ret => exact hQ .ret _ _ _ _ hk hs2
  | loop c ih =>
    intro ex out env H Q' Q a w hs h hQ
    simp only [AW] at h
    obtain ⟨n, hn⟩ := h
    refine wp_loop_rounds n ?_
    have key : ∀ (n : Nat) (env : Env) (H : AH) (a : Act) (w : World), St w0 p0 n0 N env H a w → LoopN (fun env1 H1 K => AW P N ret c ex (liveC ret (.loop c) ex out) env1 H1 fun e env' H' => match e with
        | .normal => K (keepE env' (liveC ret (.loop c) ex out)) H'
        | .exit i => Q' (.exit i) env' H'
        | .ret => Q' .ret env' H') n env H → Code.rounds P c Q n a w := by
      intro n
      induction n with
      | zero => intro env H a w _ h; exact h.elim
      | succ n ihn =>
        intro env H a w hs h
        rw [rounds_succ]
        simp only [LoopN] at h
        refine ih _ _ env H _ _ a w hs h ?_
        intro e env2 H2 a2 w2 hk hs2
        cases e with
        | normal => exact ihn _ _ _ _ (hs2.keep _) hk
        | exit i => exact hQ (.exit i) _ _ _ _ hk hs2
        | ret => exact hQ .ret _ _ _ _ hk hs2
    exact key n _ H a w (hs.keep _) hn
  | exit id => intro ex out env H Q' Q a w hs h hQ; exact wp_exit (hQ (.exit id) _ _ _ _ h hs)
  | ret => intro ex out env H Q' Q a w hs h hQ; exact wp_ret (hQ .ret _ _ _ _ h hs)
  | rangeFunc f params assign body ih1 ih2 => intro ex out env H Q' Q a w hs h hQ; exact h.elim
  | scope b ih => intro ex out env H Q' Q a w hs h hQ; exact h.elim
  | label l => intro ex out env H Q' Q a w hs h hQ; exact h.elim
  | goto l => intro ex out env H Q' Q a w hs h hQ; exact h.elim
  | refuse s => intro ex out env H Q' Q a w hs h hQ; exact h.elim
end

/-! ### Calls -/
def resOne (P : Program) (env : Env) (H : AH) : ResultVar → Option V
  | .tmp t => getE env t
  | .cell x t => match getE env x with
    | some (.ptr b i) => if tok P t then
        if tagg P t then match tsize P t with
          | some n => (H.cellsN b i n).map .agg
          | none => none
        else H.cell b i
      else none
    | _ => none

def resL (P : Program) (env : Env) (H : AH) : List ResultVar → Option (List V)
  | [] => some []
  | r :: rs => match resOne P env H r, resL P env H rs with
    | some v, some l => some (v :: l)
    | _, _ => none

def resA (P : Program) (env : Env) (H : AH) (rs : List ResultVar) : Option V :=
  match resL P env H rs with
  | some [v] => some v
  | some l => some (.tup l)
  | none => none

def retSlots : List ResultVar → List Nat
  | [] => []
  | .tmp t :: r => t :: retSlots r
  | .cell t _ :: r => t :: retSlots r

def argEnv : Nat → List V → Env
  | _, [] => []
  | i, v :: r => (i, v) :: argEnv (i + 1) r

def postA (P : Program) (rs : List ResultVar) (R : V → AH → Prop) : APost := fun e env H => match e with
  | .exit _ => False
  | .normal => match resA P env H rs with | some v => R v H | none => False
  | .ret => match resA P env H rs with | some v => R v H | none => False

theorem argEnv_get : ∀ (vs : List V) (i t : Nat) (v : V), getE (argEnv i vs) t = some v → i ≤ t ∧ vs[t - i]? = some v
  | [], _, _, _, h => by simp [argEnv, getE] at h
  | u :: vs, i, t, v, h => by
    simp only [argEnv, getE] at h
    by_cases ht : t = i
    · subst ht
      simp at h
      subst h
      exact ⟨Nat.le_refl _, by simp⟩
    · have : (t == i) = false := by simpa using ht
      simp only [this, Bool.false_eq_true, if_false] at h
      obtain ⟨h1, h2⟩ := argEnv_get vs (i + 1) t v h
      refine ⟨by omega, ?_⟩
      rw [show t - i = (t - (i + 1)) + 1 by omega]
      simpa using h2

theorem results_run {P : Program} {w0 w : World} {p : PMap} {H : AH} {env : Env} {tmps : Array Value} (hI : Inv w0 p H w) (hE : EnvR p env tmps) : ∀ {rs : List ResultVar} {l : List V}, resL P env H rs = some l →
    ∃ ls, (rs.mapM (fun x => match x with
      | .tmp t => pure (tmps.getD t undef)
      | .cell a t => do loadVar t (← asAddr (tmps.getD a undef)) : ResultVar → Sem Value)).run P w = .ok ls w ∧ RnL p l ls
  | [], l, h => by simp [resL] at h; subst h; exact ⟨[], by simp, by simp [RnL]⟩
  | r :: rs, l, h => by
    simp only [resL] at h
    split at h
    · rename_i v l2 h1 h2
      injection h with h
      subst h
      obtain ⟨ls, h3, h4⟩ := results_run hI hE h2
      have hone : ∃ x, ((match r with
          | .tmp t => pure (tmps.getD t undef)
          | .cell a t => do loadVar t (← asAddr (tmps.getD a undef)) : Sem Value)).run P w = .ok x w ∧ Rn p v x := by
        cases r with
        | tmp t =>
          simp only [resOne] at h1
          obtain ⟨x, h5, h6⟩ := hE t v h1
          exact ⟨x, by simp [h5], h6⟩
        | cell a t =>
          simp only [resOne] at h1
          split at h1
          · rename_i b i ha
            obtain ⟨x, h5, h6⟩ := hE a _ ha
            simp only [Rn] at h6
            obtain ⟨en, hp, rfl⟩ := h6
            (split at h1; rotate_left; cases h1)
            rename_i ht
            have hg := tagg_run ht w
            split at h1
            · rename_i hg2
              split at h1
              · rename_i n hs
                simp only [Option.map_eq_some_iff] at h1
                obtain ⟨cs, hc, rfl⟩ := h1
                obtain ⟨hl, _, rs2, hrl, hrn, hcell⟩ := hI.cellsN hc hp
                have h7 := run_loadCells' (P := P) ⟨en.blk, en.off + i, none⟩ w n rs2 hrl (fun j r hj => by rw [add_addr]; exact hcell j r hj)
                rw [hg2] at hg
                refine ⟨.agg (List.toArray rs2), ?_, by simp only [Rn]; exact ⟨rs2, rfl, hrn⟩⟩
                simp [h5, asAddr, loadVar, hg, tsize_run hs, h7]
              · cases h1
            · rename_i hg2
              obtain ⟨_, x, hcell, hn⟩ := hI.cell h1 hp
              have : tagg P t = false := by simpa using hg2
              rw [this] at hg
              exact ⟨x, by simp [h5, asAddr, loadVar, hg, hcell], hn⟩
          · cases h1
      obtain ⟨x, h5, h6⟩ := hone
      refine ⟨x :: ls, ?_, by simp only [RnL]; exact ⟨x, ls, rfl, h6, h4⟩⟩
      rw [List.mapM_cons]
      simp only [Sem.run_bind]
      rw [h5]
      simp only [Result.andThen_ok]
      rw [h3]
      rfl
    · cases h

theorem resA_run {P : Program} {w0 w : World} {p : PMap} {H : AH} {env : Env} {tmps : Array Value} (hI : Inv w0 p H w) (hE : EnvR p env tmps) {fn : Func} {v : V} (h : resA P env H fn.results.toList = some v) : ∃ r, (results fn tmps).run P w = .ok r w ∧ Rn p v r := by
  unfold resA at h
  have key : ∀ l, resL P env H fn.results.toList = some l → ∃ ls, (fn.results.mapM (fun x => match x with
      | .tmp t => pure (tmps.getD t undef)
      | .cell a t => do loadVar t (← asAddr (tmps.getD a undef)) : ResultVar → Sem Value)).run P w = .ok (List.toArray ls) w ∧ RnL p l ls := by
    intro l hl
    obtain ⟨ls, h1, h2⟩ := results_run hI hE hl
    refine ⟨ls, ?_, h2⟩
    rw [Array.mapM_eq_mapM_toList]
    simp only [Sem.run_map]
    rw [h1]
    rfl
  split at h
  · rename_i x hl
    injection h with h
    subst h
    obtain ⟨ls, h1, h2⟩ := key _ hl
    simp only [RnL] at h2
    obtain ⟨r, rs, rfl, h3, rfl⟩ := h2
    refine ⟨r, ?_, h3⟩
    simp only [results, Sem.run_bind]
    exact (congrArg (fun x => Result.andThen x _) h1).trans (by simp)
  · rename_i l hne hl
    injection h with h
    subst h
    obtain ⟨ls, h1, h2⟩ := key _ hl
    have hlen := h2.length
    have hn1 : ls.length ≠ 1 := by
      intro hc
      rw [hlen] at hc
      match l, hc with
      | [x], _ => exact hne x rfl
    refine ⟨.tuple (List.toArray ls), ?_, by simp only [Rn]; exact ⟨ls, rfl, h2⟩⟩
    simp only [results, Sem.run_bind]
    exact (congrArg (fun x => Result.andThen x _) h1).trans (by simp [hn1])
  · cases h

theorem callsA_of {P : Program} (hm : P.follows .mixedOrders = true) {f : FuncId} {fn : Func} {c : Code} (hf : P.funcs[f]? = some fn) (hb : fn.body = some c) (hcall : ∀ (args : Array Value) (w : World), (callFunc f args).run P w = .ok (.enter f args) w)
    {args : List V} {H : AH} {R : V → AH → Prop} (hn : args.length ≤ fn.ntmps) (h : AW P fn.ntmps (retSlots fn.results.toList) c [] [] (argEnv 0 args) H (postA P fn.results.toList R)) : CallsA P f args H R := by
  intro w0 p w rs hI ha
  refine .inl ⟨hcall _ _, ?_⟩
  refine calls_of_wp hf hb ?_
  have hE : EnvR p (argEnv 0 args) (List.toArray rs ++ Array.replicate (fn.ntmps - (List.toArray rs).size) undef) := by
    intro t v hv
    obtain ⟨_, h2⟩ := argEnv_get args 0 t v hv
    obtain ⟨r, h3, h4⟩ := ha.get _ _ h2
    refine ⟨r, ?_, h4⟩
    simp only [Nat.sub_zero] at h3
    have hlt : t < rs.length := (List.getElem?_eq_some_iff.1 h3).1
    rw [Array.getElem?_append_left (by simpa using hlt)]
    simpa using h3
  have hs : St w0 p H.length fn.ntmps (argEnv 0 args) H { tmps := List.toArray rs ++ Array.replicate (fn.ntmps - (List.toArray rs).size) undef, defers := [] } w :=
    ⟨⟨p, hI, hE, PMap.le_refl p, fun _ _ h => h⟩, Nat.le_refl _, by simp [ha.length]; omega, rfl⟩
  refine AW_sound hm _ c [] [] _ H _ _ _ w hs h ?_
  intro e env H' a w' hk hs'
  obtain ⟨⟨p', hI', hE', hle, hfr⟩, hlen, hsz, hdf⟩ := hs'
  have fin : (match resA P env H' fn.results.toList with | some v => R v H' | none => False) → a.defers = [] ∧ ∃ v, (results fn a.tmps).run P w' = .ok v w' ∧
      (∃ p'' H'' u r, p.le p'' ∧ ((∀ b, b < H.length → p b = none → p'' b = none) ∧ H.length ≤ H''.length) ∧ Inv w0 p'' H'' w' ∧ R u H'' ∧ Rn p'' u r ∧ Ending.returned v = .returned r) := by
    intro hk
    split at hk
    · rename_i v hv
      obtain ⟨r, h1, h2⟩ := resA_run hI' hE' hv
      exact ⟨hdf, r, h1, p', H', v, r, hle, ⟨hfr, hlen⟩, hI', hk, h2, rfl⟩
    · exact hk.elim
  cases e with
  | normal => exact fin hk
  | exit i => exact hk.elim
  | ret => exact fin hk

end Go.Proofs.YtpjkammmoaeheaaDoor.Aw

/- Weaker posts; loops by an invariant. -/
set_option linter.unusedSimpArgs false
set_option linter.unusedVariables false
namespace Go.Proofs.YtpjkammmoaeheaaDoor.Aw
open Go Go.RowKit

section
variable {P : Program}

theorem eop_mono {e : Operand → Option V} {o : Op} {H : AH} {K K' : Option V → AH → Prop} (h : ∀ ov H, K ov H → K' ov H) (hk : eop P e o H K) : eop P e o H K' := by
  cases o <;> simp only [eop] at hk ⊢ <;> try exact hk
  case store t a x =>
    split at hk <;> first | exact hk.elim | skip
    split at hk <;> first | exact hk.elim | skip
    split at hk <;> first | exact hk.elim | skip
    rename_i hc _ _ hs
    simp only [if_pos hc, hs]
    exact h _ _ hk
  case mapUpdate t m k x =>
    split at hk <;> first | exact hk.elim | skip
    split at hk <;> first | exact hk.elim | skip
    exact h _ _ hk
  case insert t m k x =>
    split at hk <;> first | exact hk.elim | skip
    split at hk <;> first | exact hk.elim | skip
    exact h _ _ hk
  case call c =>
    split at hk <;> first | exact hk.elim | skip
    · split at hk <;> first | exact hk.elim | skip
      exact hk.mono fun v H' hv => h _ _ hv
    · split at hk <;> first | exact hk.elim | skip
      split at hk <;> first | exact hk.elim | skip
      exact h _ _ hk

theorem gate_mono {ops : List Oper} {o : Oper} {env : Env} {y n y' n' : Env → Prop} (hy : ∀ e, y e → y' e) (hn : ∀ e, n e → n' e) (h : gate ops o env y n) : gate ops o env y' n' := by
  unfold gate at h ⊢
  cases hg : o.guard with
  | none => simp only [hg] at h ⊢; exact hy _ h
  | some g =>
    obtain ⟨j, want⟩ := g
    simp only [hg] at h ⊢
    cases hd : (ops[j]?).bind (·.dst) with
    | none => simp only [hd] at h ⊢; exact hn _ h
    | some t =>
      simp only [hd] at h ⊢
      split at h
      · rename_i b hb
        cases b <;> cases want <;> simp only [splitB] at h ⊢ <;> first | exact hy _ h | exact hn _ h
      · exact hn _ h
      · exact h.elim

theorem seqA_mono {ops : List Oper} {K K' : Env → AH → Prop} (hK : ∀ e H, K e H → K' e H) : ∀ (l : List Oper) (env : Env) (H : AH), seqA P ops l env H K → seqA P ops l env H K'
  | [], _, _, h => hK _ _ h
  | o :: l, env, H, h => by
    simp only [seqA] at h ⊢
    refine gate_mono (fun e he => ?_) (fun e he => seqA_mono hK l _ _ he) h
    unfold opA at he ⊢
    split
    · rename_i hf
      rw [if_pos hf] at he
      exact eop_mono (fun ov H' hh => seqA_mono hK l _ _ hh) he
    · rename_i hf
      rw [if_neg hf] at he
      split at he
      · exact seqA_mono hK l _ _ he
      · exact seqA_mono hK l _ _ he
      · exact he.elim

def LogMono (l : Log) : Prop := ∀ j c, (j, c) ∈ l → ∀ (H : AH) (X X' : Prop), (X → X') → c H X → c H X'

theorem chkOne_mono {e : Operand → Option V} {o : Oper} {nb : Nat} {v : V} {ob : Option Blk} {H : AH} {X X' : Prop} (h : X → X') (hx : chkOne P e o nb v ob H X) : chkOne P e o nb v ob H X' := by
  unfold chkOne at hx ⊢
  split
  · rename_i hr
    rw [if_pos hr] at hx
    refine ⟨hx.1, ?_⟩
    have := hx.2
    cases ob with
    | none => exact h this
    | some b => exact ⟨this.1, h this.2⟩
  · rename_i hr
    rw [if_neg hr] at hx
    cases ob with
    | none => exact h hx
    | some b => exact ⟨hx.1, h hx.2⟩

theorem logOne_mono {e : Operand → Option V} {o : Oper} {i nb : Nat} {v : V} {ob : Option Blk} {l : Log} (h : LogMono l) : LogMono (logOne P e o i nb v ob l) := by
  unfold logOne
  have key : ∀ ob2, LogMono ((i, chkOne P e o nb v ob2) :: l) := by
    intro ob2 j c hm H X X' hX hc
    rcases List.mem_cons.1 hm with hm | hm
    · injection hm with h1 h2
      subst h2
      exact chkOne_mono hX hc
    · exact h j c hm H X X' hX hc
  split
  · exact key ob
  · cases ob with
    | none => exact h
    | some b => exact key (some b)

theorem chkAll_mono {m : Nat} {H : AH} {X X' : Prop} (hX : X → X') : ∀ {l : Log}, LogMono l → chkAll m l H X → chkAll m l H X'
  | [], _, h => hX h
  | (j, c) :: l, hl, h => by
    simp only [chkAll] at h ⊢
    have ih : chkAll m l H X → chkAll m l H X' := fun hh => chkAll_mono hX (fun j c hm => hl j c (by simp [hm])) hh
    split
    · rename_i hb; rw [if_pos hb] at h; exact ih h
    · rename_i hb; rw [if_neg hb] at h; exact hl j c (by simp) H _ _ ih h

theorem drawA_mono {ops : List Oper} {ms : List Nat} {K K' : Env → AH → Prop} (hK : ∀ e H, K e H → K' e H) : ∀ (ord : List Nat) (log : Log) (env : Env) (H : AH), LogMono log → drawA P ops ms ord log env H K → drawA P ops ms ord log env H K'
  | [], _, _, _, _, h => hK _ _ h
  | i :: rest, log, env, H, hl, h => by
    simp only [drawA] at h ⊢
    cases ho : ops[i]? with
    | none => simp [ho] at h
    | some o =>
      simp only [ho] at h ⊢
      refine gate_mono (fun e he => ?_) (fun e he => drawA_mono hK rest _ _ _ hl he) h
      split
      · rename_i hf
        rw [if_pos hf] at he
        exact eop_mono (fun ov H' hh => chkAll_mono (fun hh => drawA_mono hK rest _ _ _ hl hh) hl hh) he
      · rename_i hf
        rw [if_neg hf] at he
        split at he
        · exact drawA_mono hK rest _ _ _ (logOne_mono hl) he
        · exact drawA_mono hK rest _ _ _ (logOne_mono hl) he
        · exact he.elim

theorem LoopN_mono {F F' : Env → AH → (Env → AH → Prop) → Prop} (hF : ∀ env H K K', (∀ e H, K e H → K' e H) → F env H K → F' env H K') : ∀ (n : Nat) (env : Env) (H : AH), LoopN F n env H → LoopN F' n env H
  | 0, _, _, h => h
  | n + 1, env, H, h => hF _ _ _ _ (fun e H => LoopN_mono hF n e H) h

theorem AW_mono {N : Nat} {ret : List Nat} : ∀ (c : Code) (ex : List (Nat × List Nat)) (out : List Nat) (env : Env) (H : AH) (Q Q' : APost), (∀ e env H, Q e env H → Q' e env H) → AW P N ret c ex out env H Q → AW P N ret c ex out env H Q' := by
  intro c
  induction c with
  | skip => intro ex out env H Q Q' hQ h; exact hQ _ _ _ h
  | region id ops draw =>
    intro ex out env H Q Q' hQ h
    cases draw with
    | true =>
      simp only [AW] at h ⊢
      split at h
      · exact drawA_mono (hQ .normal) _ _ _ _ (by intro j c hm; simp at hm) h
      · exact h.elim
    | false =>
      simp only [AW] at h ⊢
      split at h
      · exact seqA_mono (hQ .normal) _ _ _ h
      · exact h.elim
  | seq x y ihx ihy =>
    intro ex out env H Q Q' hQ h
    simp only [AW] at h ⊢
    refine ihx _ _ _ _ _ _ ?_ h
    intro e env2 H2 hk
    cases e with
    | normal => exact ihy _ _ _ _ _ _ hQ hk
    | exit i => exact hQ _ _ _ hk
    | ret => exact hQ _ _ _ hk
  | cond c x y ihx ihy =>
    intro ex out env H Q Q' hQ h
    simp only [AW] at h ⊢
    split at h
    · rename_i t _
      cases t
      · exact ihy _ _ _ _ _ _ hQ h
      · exact ihx _ _ _ _ _ _ hQ h
    · exact h.elim
  | block id c ih =>
    intro ex out env H Q Q' hQ h
    simp only [AW] at h ⊢
    refine ih _ _ _ _ _ _ ?_ h
    intro e env2 H2 hk
    cases e with
    | normal => exact hQ _ _ _ hk
    | exit i =>
      simp only at hk ⊢
      split at hk
      · exact hQ _ _ _ hk
      · exact hQ _ _ _ hk
    | ret => exact hQ _ _ _ hk
  | loop c ih =>
    intro ex out env H Q Q' hQ h
    simp only [AW] at h ⊢
    obtain ⟨n, hn⟩ := h
    refine ⟨n, LoopN_mono ?_ n _ _ hn⟩
    intro env1 H1 K K' hK hh
    refine ih _ _ _ _ _ _ ?_ hh
    intro e env2 H2 hk
    cases e with
    | normal => exact hK _ _ hk
    | exit i => exact hQ _ _ _ hk
    | ret => exact hQ _ _ _ hk
  | exit id => intro ex out env H Q Q' hQ h; exact hQ _ _ _ h
  | ret => intro ex out env H Q Q' hQ h; exact hQ _ _ _ h
  | rangeFunc f params assign body ih1 ih2 => intro ex out env H Q Q' hQ h; exact h
  | scope b ih => intro ex out env H Q Q' hQ h; exact h
  | label l => intro ex out env H Q Q' hQ h; exact h
  | goto l => intro ex out env H Q Q' hQ h; exact h
  | refuse s => intro ex out env H Q Q' hQ h; exact h

/-- One round of a loop, as 'AW' has it. -/
def Round (P : Program) (N : Nat) (ret : List Nat) (c : Code) (ex : List (Nat × List Nat)) (out : List Nat) (Q : APost) (env1 : Env) (H1 : AH) (K : Env → AH → Prop) : Prop :=
  AW P N ret c ex (liveC ret (.loop c) ex out) env1 H1 fun e env' H' => match e with
      | .normal => K (keepE env' (liveC ret (.loop c) ex out)) H'
      | .exit i => Q (.exit i) env' H'
      | .ret => Q .ret env' H'

theorem Round_mono {N : Nat} {ret : List Nat} {c : Code} {ex : List (Nat × List Nat)} {out : List Nat} {Q : APost} {env : Env} {H : AH} {K K' : Env → AH → Prop} (hK : ∀ e H, K e H → K' e H) (h : Round P N ret c ex out Q env H K) : Round P N ret c ex out Q env H K' := by
  refine AW_mono _ _ _ _ _ _ _ ?_ h
  intro e env2 H2 hk
  cases e with
  | normal => exact hK _ _ hk
  | exit i => exact hk
  | ret => exact hk

/-- A loop by what holds at the head of each round, and a measure. -/
theorem loop_by {F : Env → AH → (Env → AH → Prop) → Prop} (hF : ∀ env H K K', (∀ e H, K e H → K' e H) → F env H K → F env H K') (I : Nat → Env → AH → Prop) (hr : ∀ n env H, I n env H → F env H fun env' H' => ∃ m, m < n ∧ I m env' H') : ∀ (n : Nat) (env : Env) (H : AH), I n env H → LoopA F env H := by
  have more : ∀ (a b : Nat) (env : Env) (H : AH), a ≤ b → LoopN F a env H → LoopN F b env H := by
    intro a
    induction a with
    | zero => intro b env H _ h; exact h.elim
    | succ a ih =>
      intro b env H hab h
      obtain ⟨b, rfl⟩ : ∃ c, b = c + 1 := ⟨b - 1, by omega⟩
      exact hF _ _ _ _ (fun e H hh => ih b e H (by omega) hh) h
  have key : ∀ (n : Nat) (env : Env) (H : AH), I n env H → LoopN F (n + 1) env H := by
    intro n
    induction n using Nat.strongRecOn with
    | _ n ih =>
      intro env H h
      refine hF _ _ _ _ ?_ (hr n env H h)
      rintro e H2 ⟨m, hm, hI⟩
      exact more (m + 1) n _ _ (by omega) (ih m hm e H2 hI)
  exact fun n env H h => ⟨n + 1, key n env H h⟩

theorem loop_round {N : Nat} {ret : List Nat} {c : Code} {ex : List (Nat × List Nat)} {out : List Nat} {Q : APost} (I : Nat → Env → AH → Prop) (hr : ∀ n env H, I n env H → Round P N ret c ex out Q env H fun env' H' => ∃ m, m < n ∧ I m env' H') (n : Nat) (env : Env) (H : AH) (h : I n env H) : LoopA (Round P N ret c ex out Q) env H :=
  loop_by (F := Round P N ret c ex out Q) (fun _ _ _ _ hK hh => Round_mono hK hh) I hr n env H h

end
end Go.Proofs.YtpjkammmoaeheaaDoor.Aw

/- The same calculus in words that a reader can bear: what is not known yet is taken apart by its type, what is owed stands as a plain condition; and that these words say enough. -/
set_option linter.unusedSimpArgs false
set_option linter.unusedVariables false
namespace Go.Proofs.YtpjkammmoaeheaaDoor.Aw
open Go Go.RowKit

/-! ### Values by their kinds -/
def obB (b : Bool) (K : Prop) : Prop := match b with | true => K | false => False
def asInt (k : IntKind) (v : V) (K : Int → Prop) : Prop := match v with | .int k' n => obB (decide (k' = k)) (K n) | _ => False
def asBool (v : V) (K : Bool → Prop) : Prop := match v with | .bool b => K b | _ => False
def asStr (v : V) (K : List UInt8 → Prop) : Prop := match v with | .str s => K s | _ => False
def asSl (v : V) (K : Nat → Nat → Nat → Cap → Prop) : Prop := match v with | .sl b i n c => K b i n c | _ => False
def asPtr (v : V) (K : Nat → Nat → Prop) : Prop := match v with | .ptr b i => K b i | _ => False
def asMap (v : V) (K : Nat → Prop) : Prop := match v with | .map b => K b | _ => False
def asAgg (v : V) (K : List V → Prop) : Prop := match v with | .agg cs => K cs | _ => False
def asTup (v : V) (K : List V → Prop) : Prop := match v with | .tup cs => K cs | _ => False
def uncons (l : List V) (K : V → List V → Prop) : Prop := match l with | v :: r => K v r | [] => False
def unnil (l : List V) (K : Prop) : Prop := match l with | [] => K | _ :: _ => False

/-- By the zero of its type. -/
def shape1 (z v : V) (K : V → Prop) : Prop :=
  match z with
  | .int k _ => asInt k v fun n => K (.int k n)
  | .bool _ => asBool v fun b => K (.bool b)
  | .str _ => asStr v fun s => K (.str s)
  | .sl _ _ _ _ => asSl v fun b i n c => K (.sl b i n c)
  | .nilp => asPtr v fun b i => K (.ptr b i)
  | .nilm => asMap v fun b => K (.map b)
  | _ => K v

def shapeL : List V → List V → (List V → Prop) → Prop
  | [], l, K => unnil l (K [])
  | z :: zs, l, K => uncons l fun v vs => shape1 z v fun v' => shapeL zs vs fun vs' => K (v' :: vs')

def shapeV (z v : V) (K : V → Prop) : Prop :=
  match z with
  | .agg zs => match decide (zs.length ≤ 16) with
    | true => asAgg v fun cs => shapeL zs cs fun cs' => K (.agg cs')
    | false => K v
  | z => shape1 z v K

def shapeT1 (P : Program) (t : TypeId) (v : V) (K : V → Prop) : Prop :=
  match tzero P t with
  | some z => shapeV z v K
  | none => K v

def shapeTs (P : Program) : List TypeId → List V → (List V → Prop) → Prop
  | [], l, K => unnil l (K [])
  | t :: ts, l, K => uncons l fun v vs => shapeT1 P t v fun v' => shapeTs P ts vs fun vs' => K (v' :: vs')

def shapeT (P : Program) (t : TypeId) (v : V) (K : V → Prop) : Prop :=
  match P.underlying t with
  | some (.tuple ts) => match ts.toList with
    | [] => K v
    | [t] => shapeT1 P t v K
    | t1 :: t2 :: r => asTup v fun vs => shapeTs P (t1 :: t2 :: r) vs fun vs' => K (.tup vs')
  | _ => shapeT1 P t v K

theorem obB_iff {b : Bool} {K : Prop} : obB b K ↔ b = true ∧ K := by cases b <;> simp [obB]

theorem shape1_out {z v : V} {K : V → Prop} (h : shape1 z v K) : K v := by
  cases z <;> simp only [shape1] at h <;> try exact h
  all_goals cases v <;> simp only [asInt, asBool, asStr, asSl, asPtr, asMap] at h <;> try exact h
  all_goals try exact h.elim
  rename_i k _ k' n
  obtain ⟨h1, h2⟩ := obB_iff.1 h
  have : k' = k := by simpa using h1
  subst this
  exact h2

theorem shapeL_out : ∀ {zs vs : List V} {K : List V → Prop}, shapeL zs vs K → K vs
  | [], vs, K, h => by
    cases vs <;> simp only [shapeL, unnil] at h
    · exact h
  | z :: zs, vs, K, h => by
    cases vs with
    | nil => simp only [shapeL, uncons] at h
    | cons v vs =>
      simp only [shapeL, uncons] at h
      exact shapeL_out (K := fun vs' => K (v :: vs')) (shape1_out (K := fun v' => shapeL zs vs fun vs' => K (v' :: vs')) h)

theorem shapeV_out {z v : V} {K : V → Prop} (h : shapeV z v K) : K v := by
  unfold shapeV at h
  split at h
  · split at h
    · cases v <;> simp only [asAgg] at h
      exact shapeL_out h
    · exact h
  · exact shape1_out h

theorem shapeT1_out {P : Program} {t : TypeId} {v : V} {K : V → Prop} (h : shapeT1 P t v K) : K v := by
  unfold shapeT1 at h
  split at h
  · exact shapeV_out h
  · exact h

theorem shapeTs_out {P : Program} : ∀ {ts : List TypeId} {vs : List V} {K : List V → Prop}, shapeTs P ts vs K → K vs
  | [], vs, K, h => by
    cases vs <;> simp only [shapeTs, unnil] at h
    · exact h
  | z :: zs, vs, K, h => by
    cases vs with
    | nil => simp only [shapeTs, uncons] at h
    | cons v vs =>
      simp only [shapeTs, uncons] at h
      exact shapeTs_out (K := fun vs' => K (v :: vs')) (shapeT1_out (K := fun v' => shapeTs P zs vs fun vs' => K (v' :: vs')) h)

theorem shapeT_out {P : Program} {t : TypeId} {v : V} {K : V → Prop} (h : shapeT P t v K) : K v := by
  unfold shapeT at h
  split at h
  · split at h
    · exact h
    · exact shapeT1_out h
    · cases v <;> simp only [asTup] at h
      exact shapeTs_out h
  · exact shapeT1_out h

/-! ### What is read -/
def nz (b : Int) : Prop := b ≠ 0
def nn (b : Int) : Prop := 0 ≤ b
def inB (k : Int) (n : Nat) : Prop := 0 ≤ k ∧ k < n
def inS (l h : Int) (n : Nat) : Prop := 0 ≤ l ∧ l ≤ h ∧ h ≤ n
def mkOk (n m : Int) (bytes : Nat) : Prop := 0 ≤ n ∧ n ≤ m ∧ m * (bytes : Int) ≤ 140737488355328 ∧ m ≤ 140737488355328
def catOk (a b : Nat) : Prop := a + b ≤ 9223372036854775807

def shrI (k : IntKind) (a b : Int) : Int := a.fdiv (2 ^ (min b.toNat k.bits))
def shlI (k : IntKind) (a b : Int) : Int := k.wrap (a * 2 ^ (min b.toNat k.bits))
def byteAt (s : List UInt8) (k : Int) : UInt8 := s.getD k.toNat 0

def evK (e : Operand → Option V) (x : Operand) (K : V → Prop) : Prop := match e x with | some v => K v | none => False
def ld (H : AH) (b i : Nat) (K : V → Prop) : Prop := match H.cell b i with | some v => K v | none => False
def cellsK (H : AH) (b i n : Nat) (K : List V → Prop) : Prop := match H.cellsN b i n with | some l => K l | none => False
def strK (H : AH) (b i n : Nat) (K : List UInt8 → Prop) : Prop :=
  match H.cellsN b i n with
  | some l => match unbytes l with | some s => K s | none => False
  | none => False

def ldL (H : AH) (b i : Nat) : Nat → List V → (List V → Prop) → Prop
  | _, [], K => K []
  | j, z :: zs, K => ld H b (i + j) fun v => shape1 z v fun v' => ldL H b i (j + 1) zs fun vs => K (v' :: vs)

def ldT (P : Program) (H : AH) (t : TypeId) (b i : Nat) (K : V → Prop) : Prop :=
  match tok P t, tagg P t, tzero P t, tsize P t with
  | true, true, some (.agg zs), some n => match decide (zs.length = n), decide (n ≤ 16) with
    | true, true => ldL H b i 0 zs fun vs => K (.agg vs)
    | _, _ => cellsK H b i n fun vs => K (.agg vs)
  | true, true, _, some n => cellsK H b i n fun vs => K (.agg vs)
  | true, false, some z, _ => ld H b i fun v => shape1 z v K
  | true, false, none, _ => ld H b i K
  | _, _, _, _ => False

theorem evK_out {e : Operand → Option V} {x : Operand} {K : V → Prop} (h : evK e x K) : ∃ v, e x = some v ∧ K v := by
  unfold evK at h
  split at h
  · rename_i v hv; exact ⟨v, hv, h⟩
  · exact h.elim

theorem ld_out {H : AH} {b i : Nat} {K : V → Prop} (h : ld H b i K) : ∃ v, H.cell b i = some v ∧ K v := by
  unfold ld at h
  split at h
  · rename_i v hv; exact ⟨v, hv, h⟩
  · exact h.elim

theorem cellsK_out {H : AH} {b i n : Nat} {K : List V → Prop} (h : cellsK H b i n K) : ∃ l, H.cellsN b i n = some l ∧ K l := by
  unfold cellsK at h
  split at h
  · rename_i v hv; exact ⟨v, hv, h⟩
  · exact h.elim

theorem cell_some {H : AH} {b i : Nat} {v : V} (h : H.cell b i = some v) : ∃ vs ro, H[b]? = some (.cells vs ro) ∧ vs[i]? = some v := by
  unfold AH.cell at h
  split at h
  · rename_i vs ro hb; exact ⟨vs, ro, hb, h⟩
  · cases h

theorem cellsN_of {H : AH} {b i : Nat} : ∀ {vs : List V}, (∀ j v, vs[j]? = some v → H.cell b (i + j) = some v) → H.cellsN b i vs.length = some vs
  | [], _ => rfl
  | v :: vs, h => by
    obtain ⟨us, ro, hb, h0⟩ := cell_some (h 0 v (by simp))
    have hall : ∀ j x, (v :: vs)[j]? = some x → us[i + j]? = some x := by
      intro j x hx
      have := h j x hx
      simpa [AH.cell, hb] using this
    have hlen : i + (vs.length + 1) ≤ us.length := by
      have h1 := hall vs.length ((v :: vs)[vs.length]'(by simp)) (by simp)
      have := (List.getElem?_eq_some_iff.1 h1).1
      omega
    simp only [List.length_cons, AH.cellsN, AH.cellsS, hb, hlen, if_true, Option.some.injEq]
    apply List.ext_getElem?
    intro j
    rw [List.getElem?_take]
    by_cases hj : j < vs.length + 1
    · rw [if_pos hj, List.getElem?_drop]
      have : j < (v :: vs).length := by simpa using hj
      rw [hall j _ (List.getElem?_eq_getElem this), List.getElem?_eq_getElem this]
    · rw [if_neg hj, List.getElem?_eq_none (by simp; omega)]

theorem ldL_out {H : AH} {b i : Nat} : ∀ {zs : List V} {j : Nat} {K : List V → Prop}, ldL H b i j zs K → ∃ vs, vs.length = zs.length ∧ (∀ k v, vs[k]? = some v → H.cell b (i + (j + k)) = some v) ∧ K vs
  | [], j, K, h => ⟨[], rfl, by simp, h⟩
  | z :: zs, j, K, h => by
    simp only [ldL] at h
    obtain ⟨v, h1, h2⟩ := ld_out h
    obtain ⟨vs, h3, h4, h5⟩ := ldL_out (shape1_out h2)
    refine ⟨v :: vs, by simp [h3], ?_, h5⟩
    intro k x hx
    cases k with
    | zero => simp at hx; subst hx; exact h1
    | succ k => have := h4 k x (by simpa using hx); rwa [show j + 1 + k = j + (k + 1) by omega] at this

theorem ldT_out {P : Program} {H : AH} {t : TypeId} {b i : Nat} {K : V → Prop} (h : ldT P H t b i K) : tok P t = true ∧ ∃ v, K v ∧ ((tagg P t = true ∧ ∃ n l, tsize P t = some n ∧ H.cellsN b i n = some l ∧ v = .agg l) ∨ (tagg P t = false ∧ H.cell b i = some v)) := by
  unfold ldT at h
  split at h
  · rename_i zs n h1 h2 h3 h4
    split at h
    · rename_i h5 h6
      obtain ⟨vs, h7, h8, h9⟩ := ldL_out h
      have : zs.length = n := by simpa using h5
      subst this
      refine ⟨h1, _, h9, .inl ⟨h2, _, vs, h4, ?_, rfl⟩⟩
      rw [← h7]
      exact cellsN_of fun j v hv => by have := h8 j v hv; rwa [Nat.zero_add] at this
    · obtain ⟨l, h7, h8⟩ := cellsK_out h
      exact ⟨h1, _, h8, .inl ⟨h2, _, l, h4, h7, rfl⟩⟩
  · rename_i n h1 h2 h4 _
    obtain ⟨l, h7, h8⟩ := cellsK_out h
    exact ⟨h1, _, h8, .inl ⟨h2, _, l, h4, h7, rfl⟩⟩
  · rename_i z h1 h2 h3
    obtain ⟨v, h7, h8⟩ := ld_out h
    exact ⟨h1, v, shape1_out h8, .inr ⟨h2, h7⟩⟩
  · rename_i h1 h2 h3
    obtain ⟨v, h7, h8⟩ := ld_out h
    exact ⟨h1, v, h8, .inr ⟨h2, h7⟩⟩
  · exact h.elim

/-! ### Operations that write nothing -/
def eqK : List V → List V → Option Bool
  | [], [] => some true
  | .int k a :: r, .int k' b :: s => match decide (k = k'), eqK r s with | true, some x => some (a == b && x) | _, _ => none
  | .bool a :: r, .bool b :: s => match eqK r s with | some x => some (a == b && x) | none => none
  | .str a :: r, .str b :: s => match eqK r s with | some x => some (a == b && x) | none => none
  | _, _ => none

theorem eqK_out : ∀ {xs ys : List V} {b : Bool}, eqK xs ys = some b → eqCells xs ys = some b := by
  intro xs
  induction xs with
  | nil => intro ys b h; cases ys <;> simp_all [eqK, eqCells]
  | cons x xs ih =>
    intro ys b h
    cases ys with
    | nil => simp [eqK] at h
    | cons y ys =>
      cases x <;> cases y <;> simp only [eqK] at h <;> try (cases h; done)
      all_goals simp only [eqCells]
      · split at h <;> simp at h
        rename_i hk hx
        have hk := of_decide_eq_true hk
        subst hk h
        have := ih hx
        simp only [if_true, beq_iff_eq]
        split
        · rename_i he; simp [he, this]
        · rename_i he; simp [he]
      · split at h <;> simp at h
        rename_i hx
        subst h
        have := ih hx
        simp only [beq_iff_eq]
        split
        · rename_i he; simp [he, this]
        · rename_i he; simp [he]
      · split at h <;> simp at h
        rename_i hx
        subst h
        have := ih hx
        simp only [beq_iff_eq]
        split
        · rename_i he; simp [he, this]
        · rename_i he; simp [he]

def optK (o : Option V) (K : V → Prop) : Prop := match o with | some v => K v | none => False

def binK (P : Program) (op : BinOp) (t : TypeId) (x y : V) (K : V → Prop) : Prop :=
  match x, y with
  | .int k a, .int k' b =>
    match op with
    | .quo => obB (decide (k = k')) (nz b ∧ K (.int k (k.wrap (a.tdiv b))))
    | .rem => obB (decide (k = k')) (nz b ∧ K (.int k (a.tmod b)))
    | .shl => nn b ∧ K (.int k (shlI k a b))
    | .shr => nn b ∧ K (.int k (shrI k a b))
    | op => optK (binA P op t (.int k a) (.int k' b)) K
  | .str a, .str b =>
    match op with
    | .add => catOk a.length b.length ∧ K (.str (a ++ b))
    | op => optK (strA op a b) K
  | .agg xs, .agg ys =>
    match flatEq P t xs with
    | some n => obB (decide (xs.length = n) && decide (ys.length = n)) (match op with
      | .eql => match eqK xs ys with | some b => K (.bool b) | none => False
      | .neq => match eqK xs ys with | some b => K (.bool (!b)) | none => False
      | _ => False)
    | none => False
  | x, y => optK (binA P op t x y) K

theorem optK_out {o : Option V} {K : V → Prop} (h : optK o K) : ∃ v, o = some v ∧ K v := by
  unfold optK at h
  split at h
  · exact ⟨_, rfl, h⟩
  · exact h.elim

theorem binK_out {P : Program} {op : BinOp} {t : TypeId} {x y : V} {K : V → Prop} (h : binK P op t x y K) : ∃ v, binA P op t x y = some v ∧ K v := by
  unfold binK at h
  split at h
  · rename_i k a k' b
    split at h
    · obtain ⟨h1, h2, h3⟩ := obB_iff.1 h
      unfold nz at h2
      have : k = k' := by simpa using h1
      exact ⟨_, by simp [binA, this, intA, h2], this ▸ h3⟩
    · obtain ⟨h1, h2, h3⟩ := obB_iff.1 h
      unfold nz at h2
      have : k = k' := by simpa using h1
      exact ⟨_, by simp [binA, this, intA, h2], this ▸ h3⟩
    · exact ⟨_, by have h1 := h.1; unfold nn at h1; simp [binA, shA, Int.not_lt.2 h1, shlI, shrI], h.2⟩
    · exact ⟨_, by have h1 := h.1; unfold nn at h1; simp [binA, shA, Int.not_lt.2 h1, shlI, shrI], h.2⟩
    · exact optK_out h
  · rename_i a b
    split at h
    · exact ⟨_, by have h1 := h.1; unfold catOk at h1; simp [binA, strA, h1], h.2⟩
    · exact optK_out h
  · rename_i xs ys
    split at h
    · rename_i n hf
      obtain ⟨h1, h2⟩ := obB_iff.1 h
      simp only [Bool.and_eq_true, decide_eq_true_eq] at h1
      simp only [binA, hf, h1, and_self, if_true]
      split at h2
      · split at h2
        · rename_i b hb
          rw [eqK_out hb]
          exact ⟨_, rfl, h2⟩
        · exact h2.elim
      · split at h2
        · rename_i b hb
          rw [eqK_out hb]
          exact ⟨_, rfl, h2⟩
        · exact h2.elim
      · exact h2.elim
    · exact h.elim
  · exact optK_out h

def slK (sz b i n : Nat) (c : Cap) (lo hi mx : Option Int) (K : V → Prop) : Prop :=
  match mx with
  | none => inS (lo.getD 0) (hi.getD n) n ∧ capFit c sz ∧ K (.sl b (i + (lo.getD 0).toNat * sz) (hi.getD n - lo.getD 0).toNat (cutCap c (lo.getD 0).toNat))
  | some m => optK (sliceSl sz b i n c lo hi (some m)) K

def sliceK (P : Program) (t : TypeId) (x : V) (lo hi mx : Option Int) (K : V → Prop) : Prop :=
  match P.underlying t with
  | some .string => asStr x fun s => match lo, hi, mx with
    | none, none, none => K (.str s)
    | some l, none, none => inS l s.length s.length ∧ K (.str (s.drop l.toNat))
    | none, some h, none => inS 0 h s.length ∧ K (.str (s.take h.toNat))
    | some l, some h, none => inS l h s.length ∧ K (.str ((s.take h.toNat).drop l.toNat))
    | _, _, _ => False
  | some (.slice el) => match tsize P el with
    | some sz => obB (decide (0 < sz)) (asSl x fun b i n c => slK sz b i n c lo hi mx K)
    | none => False
  | some (.array n el) => match tsize P el with
    | some sz => obB (decide (0 < sz)) (asPtr x fun b i => slK sz b i n (.ex n) lo hi mx K)
    | none => False
  | _ => False

theorem slK_out {sz b i n : Nat} {c : Cap} {lo hi mx : Option Int} {K : V → Prop} (h : slK sz b i n c lo hi mx K) : ∃ v, sliceSl sz b i n c lo hi mx = some v ∧ K v := by
  unfold slK at h
  split at h
  · obtain ⟨h1, h2, h3⟩ := h
    exact ⟨_, by unfold inS at h1; simp only [sliceSl, if_pos h1, if_pos h2], h3⟩
  · exact optK_out h

theorem sliceK_out {P : Program} {t : TypeId} {x : V} {lo hi mx : Option Int} {K : V → Prop} (h : sliceK P t x lo hi mx K) : ∃ v, sliceA P t x lo hi mx = some v ∧ K v := by
  unfold sliceK at h
  split at h
  · rename_i hu
    cases x <;> simp only [asStr] at h
    split at h
    · exact ⟨_, by simp [sliceA, hu, sliceStr], h⟩
    · have h1 := h.1; unfold inS at h1
      exact ⟨_, by simp [sliceA, hu, sliceStr, h1.1, h1.2.1], h.2⟩
    · have h1 := h.1; unfold inS at h1
      exact ⟨_, by simp [sliceA, hu, sliceStr, h1.2.1, h1.2.2], h.2⟩
    · have h1 := h.1; unfold inS at h1
      exact ⟨_, by simp [sliceA, hu, sliceStr, h1], h.2⟩
    · exact h.elim
  · rename_i el hu
    split at h
    · rename_i sz hs
      obtain ⟨h1, h2⟩ := obB_iff.1 h
      cases x <;> simp only [asSl] at h2
      obtain ⟨v, h3, h4⟩ := slK_out h2
      exact ⟨v, by simp [sliceA, hu, hs, h3, (by simpa using h1 : 0 < sz)], h4⟩
    · exact h.elim
  · rename_i n el hu
    split at h
    · rename_i sz hs
      obtain ⟨h1, h2⟩ := obB_iff.1 h
      cases x <;> simp only [asPtr] at h2
      obtain ⟨v, h3, h4⟩ := slK_out h2
      exact ⟨v, by simp [sliceA, hu, hs, h3, (by simpa using h1 : 0 < sz)], h4⟩
    · exact h.elim
  · exact h.elim

def idxK (P : Program) (t : TypeId) (x : V) (k : Int) (K : V → Prop) : Prop :=
  match P.underlying t with
  | some (.array n el) => match tsize P el with
    | some sz => asPtr x fun b i => inB k n ∧ K (.ptr b (i + k.toNat * sz))
    | none => False
  | some (.slice el) => match tsize P el with
    | some sz => asSl x fun b i n _ => inB k n ∧ K (.ptr b (i + k.toNat * sz))
    | none => False
  | _ => False

theorem idxK_out {P : Program} {t : TypeId} {x : V} {k : Int} {K : V → Prop} (h : idxK P t x k K) : ∃ v, idxA P t x k = some v ∧ K v := by
  unfold idxK at h
  split at h
  · rename_i n el hu
    split at h
    · rename_i sz hs
      cases x <;> simp only [asPtr] at h
      have h1 := h.1; unfold inB at h1
      exact ⟨_, by simp [idxA, hu, hs, h1], h.2⟩
    · exact h.elim
  · rename_i el hu
    split at h
    · rename_i sz hs
      cases x <;> simp only [asSl] at h
      have h1 := h.1; unfold inB at h1
      exact ⟨_, by simp [idxA, hu, hs, h1], h.2⟩
    · exact h.elim
  · exact h.elim

def getK (l : List V) (i : Nat) (K : V → Prop) : Prop := match l[i]? with | some v => K v | none => False

def indexK (P : Program) (t : TypeId) (x : V) (k : Int) (K : V → Prop) : Prop :=
  match P.underlying t with
  | some (.array n el) => match tsize P el, tok P el, tagg P el, tzero P el with
    | some sz, true, false, some z => asAgg x fun cs => inB k n ∧ getK cs (k.toNat * sz) fun v => shape1 z v K
    | _, _, _, _ => optK (indexA P t x k) K
  | some .string => asStr x fun s => inB k s.length ∧ K (.int .u8 (byteAt s k).toNat)
  | _ => optK (indexA P t x k) K

theorem indexK_out {P : Program} {t : TypeId} {x : V} {k : Int} {K : V → Prop} (h : indexK P t x k K) : ∃ v, indexA P t x k = some v ∧ K v := by
  unfold indexK at h
  split at h
  · rename_i n el hu
    split at h
    · rename_i sz z hs ht hg hz
      cases x <;> simp only [asAgg] at h
      obtain ⟨h1, h2⟩ := h
      unfold inB at h1
      unfold getK at h2
      split at h2
      · rename_i v hv
        exact ⟨v, by simp [indexA, hu, hs, h1, partA, ht, hg, hv], shape1_out h2⟩
      · exact h2.elim
    · exact optK_out h
  · rename_i hu
    cases x <;> simp only [asStr] at h
    rename_i s
    obtain ⟨h12, h3⟩ := h
    unfold inB at h12
    obtain ⟨h1, h2⟩ := h12
    refine ⟨_, ?_, h3⟩
    have hlt : k.toNat < s.length := by omega
    simp [indexA, hu, h1, hlt, byteAt]
  · exact optK_out h

def lkK (H : AH) (b : Nat) (k : V) (K1 : V → Prop) (K2 : Prop) : Prop :=
  match H[b]? with
  | some (.mp es) => match findA k es 0 with
    | some (some (_, v)) => K1 v
    | some none => K2
    | none => False
  | _ => False

def lookupK (P : Program) (H : AH) (t : TypeId) (m k : V) (ok : Bool) (K : V → Prop) : Prop :=
  match P.underlying t with
  | some (.map kt el) => match tzero P el with
    | some z => obB (kindOk P kt k) (asMap m fun b => lkK H b k (fun v => shapeV z v fun v => K (match ok with | true => .tup [v, .bool true] | false => v)) (K (match ok with | true => .tup [z, .bool false] | false => z)))
    | none => False
  | _ => False

theorem lookupK_out {P : Program} {H : AH} {t : TypeId} {m k : V} {ok : Bool} {K : V → Prop} (h : lookupK P H t m k ok K) : ∃ v, lookupA P H t m k ok = some v ∧ K v := by
  unfold lookupK at h
  split at h
  · rename_i kt el hu
    split at h
    · rename_i z hz
      obtain ⟨h1, h2⟩ := obB_iff.1 h
      cases m <;> simp only [asMap] at h2
      unfold lkK at h2
      split at h2
      · rename_i es hb
        split at h2
        · rename_i i v hf
          cases ok with
          | true => exact ⟨.tup [v, .bool true], by simp only [lookupA, hu, hb, h1, if_true, hf], shapeV_out (K := fun v => K (.tup [v, .bool true])) h2⟩
          | false => exact ⟨v, by simp [lookupA, hu, hb, h1, hf], shapeV_out (K := K) h2⟩
        · rename_i hf
          refine ⟨_, ?_, h2⟩
          simp only [lookupA, hu, hb, h1, if_true, hf, hz]
          cases ok <;> rfl
        · exact h2.elim
      · exact h2.elim
    · exact h.elim
  · exact h.elim

def lnK (H : AH) (b : Nat) (K : Nat → Prop) : Prop := match H[b]? with | some (.mp es) => K es.length | _ => False

def lenK (P : Program) (H : AH) (t : TypeId) (x : V) (K : V → Prop) : Prop :=
  match P.underlying t with
  | some .string => asStr x fun s => K (.int .i64 s.length)
  | some (.slice _) => asSl x fun _ _ n _ => K (.int .i64 n)
  | some (.map _ _) => asMap x fun b => lnK H b fun n => K (.int .i64 n)
  | _ => optK (lenA P H t x) K

theorem lenK_out {P : Program} {H : AH} {t : TypeId} {x : V} {K : V → Prop} (h : lenK P H t x K) : ∃ v, lenA P H t x = some v ∧ K v := by
  unfold lenK at h
  split at h
  · rename_i hu
    cases x <;> simp only [asStr] at h
    exact ⟨_, by simp [lenA, hu], h⟩
  · rename_i hu
    cases x <;> simp only [asSl] at h
    exact ⟨_, by simp [lenA, hu], h⟩
  · rename_i hu
    cases x <;> simp only [asMap] at h
    unfold lnK at h
    split at h
    · rename_i es hb
      exact ⟨_, by simp [lenA, hu, hb], h⟩
    · exact h.elim
  · exact optK_out h

def fopK (P : Program) (e : Operand → Option V) (H : AH) (nb : Nat) (op : Op) (K : V → Option Blk → Prop) : Prop :=
  match op with
  | .move x => evK e x fun v => K v none
  | .assign x => evK e x fun v => K v none
  | .pick c a b => evK e c fun c => asBool c fun t => splitB t (evK e a fun v => K v none) (evK e b fun v => K v none)
  | .box _ x => evK e x fun v => obB (v.cells.all V.one) (K (.ptr nb 0) (some (.cells v.cells false)))
  | .load t a => evK e a fun p => asPtr p fun b i => ldT P H t b i fun v => K v none
  | .binOp op t x y _ => evK e x fun a => evK e y fun b => binK P op t a b fun v => K v none
  | .convert s d x => evK e x fun a => match P.underlying s, P.underlying d with
    | some (.slice el), some .string => obB (u8T P el) (asSl a fun b i n _ => strK H b i n fun s => K (.str s) none)
    | _, _ => match convA P H nb s d a with | some (v, ob) => K v ob | none => False
  | .makeSlice t l c => match P.underlying t, e l, e c with
    | some (.slice el), some (.int .i64 n), some (.int .i64 m) => match tsize P el, tzero P el with
      | some sz, some z => obB (decide (z.cells.length = sz) && decide (0 < sz) && z.cells.all V.one) (mkOk n m (tbytes P el) ∧ K (.sl nb 0 n.toNat (.ex m.toNat)) (some (.cells (rep m.toNat z.cells) false)))
      | _, _ => False
    | _, _, _ => False
  | .slice t x lo hi mx => match e x, optI e lo, optI e hi, optI e mx with
    | some v, some l, some h, some m => sliceK P t v l h m fun v => K v none
    | _, _, _, _ => False
  | .indexAddr t x ix => match e x, e ix with
    | some v, some (.int _ k) => idxK P t v k fun v => K v none
    | _, _ => False
  | .index t x ix => match e x, e ix with
    | some v, some (.int _ k) => indexK P t v k fun v => K v none
    | _, _ => False
  | .lookup t m k ok => match e m, e k with
    | some mv, some kv => lookupK P H t mv kv ok fun v => K v none
    | _, _ => False
  | .call c => match c.callee with
    | .builtin .len => match c.argTypes[0]?, evL e c.args.toList with
      | some t, some [x] => lenK P H t x fun v => K v none
      | _, _ => False
    | _ => match fop P e H nb (.call c) with | some (v, ob) => K v ob | none => False
  | op => match fop P e H nb op with | some (v, ob) => K v ob | none => False

theorem fopK_out {P : Program} {e : Operand → Option V} {H : AH} {nb : Nat} {op : Op} {K : V → Option Blk → Prop} (h : fopK P e H nb op K) : ∃ v ob, fop P e H nb op = some (v, ob) ∧ K v ob := by
  have dflt : ∀ op, (match fop P e H nb op with | some (v, ob) => K v ob | none => False) → ∃ v ob, fop P e H nb op = some (v, ob) ∧ K v ob := by
    intro op h
    split at h
    · rename_i v ob hf; exact ⟨v, ob, hf, h⟩
    · exact h.elim
  unfold fopK at h
  split at h
  · obtain ⟨v, h1, h2⟩ := evK_out h
    exact ⟨v, none, by simp [fop, h1], h2⟩
  · obtain ⟨v, h1, h2⟩ := evK_out h
    exact ⟨v, none, by simp [fop, h1], h2⟩
  · obtain ⟨v, h1, h2⟩ := evK_out h
    cases v <;> simp only [asBool] at h2
    rename_i t
    cases t <;> simp only [splitB] at h2
    · obtain ⟨v, h3, h4⟩ := evK_out h2
      exact ⟨v, none, by simp [fop, h1, h3], h4⟩
    · obtain ⟨v, h3, h4⟩ := evK_out h2
      exact ⟨v, none, by simp [fop, h1, h3], h4⟩
  · obtain ⟨v, h1, h2⟩ := evK_out h
    obtain ⟨h3, h4⟩ := obB_iff.1 h2
    exact ⟨_, _, by simp only [fop, h1, h3, if_true], h4⟩
  · obtain ⟨v, h1, h2⟩ := evK_out h
    cases v <;> simp only [asPtr] at h2
    obtain ⟨h3, v, h4, h5⟩ := ldT_out h2
    refine ⟨v, none, ?_, h4⟩
    rcases h5 with ⟨h5, n, l, h6, h7, rfl⟩ | ⟨h5, h6⟩
    · simp [fop, h1, h3, h5, h6, h7]
    · simp [fop, h1, h3, h5, h6]
  · obtain ⟨a, h1, h2⟩ := evK_out h
    obtain ⟨b, h3, h4⟩ := evK_out h2
    obtain ⟨v, h5, h6⟩ := binK_out h4
    exact ⟨v, none, by simp [fop, h1, h3, h5], h6⟩
  · obtain ⟨a, h1, h2⟩ := evK_out h
    simp only [fop, h1]
    split at h2
    · rename_i el hs hd
      obtain ⟨h3, h4⟩ := obB_iff.1 h2
      cases a <;> simp only [asSl] at h4
      unfold strK at h4
      split at h4
      · rename_i l hl
        split at h4
        · rename_i s hsb
          exact ⟨_, _, by simp [convA, hs, hd, h3, hl, hsb], h4⟩
        · exact h4.elim
      · exact h4.elim
    · split at h2
      · rename_i v ob hc
        exact ⟨v, ob, hc, h2⟩
      · exact h2.elim
  · split at h
    · rename_i el n m hu hl hc
      split at h
      · rename_i sz z hs hz
        obtain ⟨h1, h2, h3⟩ := obB_iff.1 h
        unfold mkOk at h2
        simp only [Bool.and_eq_true, decide_eq_true_eq] at h1
        refine ⟨_, _, ?_, h3⟩
        simp only [fop, hu, hl, hc, hs, hz, h1.1.1, h1.1.2, h1.2, h2.1, h2.2.1, h2.2.2.1, h2.2.2.2, and_self, if_true]
      · exact h.elim
    · exact h.elim
  · split at h
    · rename_i v l hh m h1 h2 h3 h4
      obtain ⟨u, h5, h6⟩ := sliceK_out h
      exact ⟨u, none, by simp [fop, h1, h2, h3, h4, h5], h6⟩
    · exact h.elim
  · split at h
    · rename_i v k n h1 h2
      obtain ⟨u, h5, h6⟩ := idxK_out h
      exact ⟨u, none, by simp [fop, h1, h2, h5], h6⟩
    · exact h.elim
  · split at h
    · rename_i v k n h1 h2
      obtain ⟨u, h5, h6⟩ := indexK_out h
      exact ⟨u, none, by simp [fop, h1, h2, h5], h6⟩
    · exact h.elim
  · split at h
    · rename_i v k h1 h2
      obtain ⟨u, h5, h6⟩ := lookupK_out h
      exact ⟨u, none, by simp [fop, h1, h2, h5], h6⟩
    · exact h.elim
  · split at h
    · rename_i hc
      split at h
      · rename_i t x h1 h2
        obtain ⟨u, h5, h6⟩ := lenK_out h
        exact ⟨u, none, by simp [fop, hc, h1, h2, h5], h6⟩
      · exact h.elim
    · exact dflt _ h
  · exact dflt _ h

/-! ### Operations that write -/
def stK (H : AH) (b i : Nat) (cs : List V) (K : AH → Prop) : Prop := match H.setN b i cs with | some H' => K H' | none => False
def mpK (H : AH) (b : Nat) (k v : V) (K : AH → Prop) : Prop :=
  match H[b]? with
  | some (.mp es) => match updA k v es with
    | some es' => K (H.set b (.mp es'))
    | none => False
  | _ => False

/-- 'm' elements behind the 'n' of a slice. -/
def app (H : AH) (sz bytes b i n : Nat) (c : Cap) (m : Nat) (news : List V) (K : Nat → Nat → Nat → Cap → AH → Prop) : Prop :=
  match decide (m = 0) with
  | true => K b i n c H
  | false =>
    match c with
    | .nil => match growA H sz bytes b i n m news false with
      | some (.sl b i n c, H') => K b i n c H'
      | _ => False
    | .ex k => match decide (n + m ≤ k) with
      | true => match H.setN b (i + n * sz) news with
        | some H' => K b i (n + m) (.ex k) H'
        | none => False
      | false => match growA H sz bytes b i n m news false with
        | some (.sl b i n c, H') => K b i n c H'
        | _ => False
    | .toEnd z => match decide (z = sz), decide (i + (n + m) * sz ≤ blen H b) with
      | true, true => match H.setN b (i + n * sz) news with
        | some H' => K b i (n + m) (.toEnd sz) H'
        | none => False
      | true, false => match growA H sz bytes b i n m news true with
        | some (.sl b i n c, H') => K b i n c H'
        | _ => False
      | false, _ => False

def apK (P : Program) (H : AH) (t xt : TypeId) (s x : V) (K : V → AH → Prop) : Prop :=
  match P.underlying t with
  | some (.slice el) =>
    match tsize P el, tzero P el with
    | some sz, some z => obB (decide (0 < sz) && decide (z.cells.length = sz)) (asSl s fun b i n c =>
        match P.underlying xt with
        | some (.slice _) => asSl x fun b' i' m _ => cellsK H b' i' (m * sz) fun news => app H sz (tbytes P el) b i n c m news fun b i n c H' => K (.sl b i n c) H'
        | some .string => asStr x fun s => obB (decide (sz = 1)) (app H sz (tbytes P el) b i n c s.length (s.map byteV) fun b i n c H' => K (.sl b i n c) H')
        | _ => False)
    | _, _ => False
  | _ => False

theorem growA_sl {H : AH} {sz bytes b i n m : Nat} {news : List V} {kill : Bool} {v : V} {H' : AH} (h : growA H sz bytes b i n m news kill = some (v, H')) : ∃ b i n c, v = .sl b i n c := by
  unfold growA at h
  split at h
  · split at h
    · simp only [Option.some.injEq, Prod.mk.injEq] at h
      exact ⟨_, _, _, _, h.1.symm⟩
    · cases h
  · cases h

theorem apK_out {P : Program} {H : AH} {t xt : TypeId} {s x : V} {K : V → AH → Prop} (h : apK P H t xt s x K) : ∃ v H', apA P H t xt s x = some (v, H') ∧ K v H' := by
  unfold apK at h
  split at h
  · rename_i el hu
    split at h
    · rename_i sz z hs hz
      obtain ⟨h1, h2⟩ := obB_iff.1 h
      simp only [Bool.and_eq_true, decide_eq_true_eq] at h1
      cases s <;> simp only [asSl] at h2
      rename_i b i n c
      have key : ∀ m news, srcA P H sz xt x = some (m, news) → app H sz (tbytes P el) b i n c m news (fun b i n c H' => K (.sl b i n c) H') → ∃ v H', apA P H t xt (.sl b i n c) x = some (v, H') ∧ K v H' := by
        intro m news hsrc ha
        have hg : ∀ kill, (match growA H sz (tbytes P el) b i n m news kill with | some (.sl b i n c, H') => K (.sl b i n c) H' | _ => False) → ∃ v H', growA H sz (tbytes P el) b i n m news kill = some (v, H') ∧ K v H' := by
          intro kill hk
          split at hk
          · rename_i hgr; exact ⟨_, _, hgr, hk⟩
          · exact hk.elim
        simp only [apA, hu, hs, hz, h1, and_self, if_true, hsrc]
        unfold app at ha
        split at ha
        · rename_i hm
          simp only [decide_eq_true_eq] at hm
          simp only [hm, if_true]
          exact ⟨_, _, rfl, ha⟩
        · rename_i hm
          simp only [decide_eq_false_iff_not] at hm
          simp only [hm, if_false]
          split at ha
          · exact hg _ ha
          · rename_i k
            split at ha
            · rename_i hk
              simp only [decide_eq_true_eq] at hk
              simp only [hk, if_true]
              split at ha
              · rename_i H2 h3
                exact ⟨_, _, by rw [h3]; rfl, ha⟩
              · exact ha.elim
            · rename_i hk
              simp only [decide_eq_false_iff_not] at hk
              simp only [hk, if_false]
              exact hg _ ha
          · rename_i z'
            split at ha
            · rename_i hz' hk
              simp only [decide_eq_true_eq] at hk hz'
              simp only [hk, hz', if_true]
              split at ha
              · rename_i H2 h3
                exact ⟨_, _, by rw [h3]; rfl, ha⟩
              · exact ha.elim
            · rename_i hz' hk
              simp only [decide_eq_true_eq, decide_eq_false_iff_not] at hk hz'
              simp only [hk, hz', if_true, if_false]
              exact hg _ ha
            · exact ha.elim
      split at h2
      · rename_i el2 hxt
        cases x <;> simp only [] at h2
        obtain ⟨l, h3, h4⟩ := cellsK_out h2
        exact key _ l (by simp [srcA, hxt, h3]) h4
      · rename_i hxt
        cases x <;> simp only [asStr] at h2
        obtain ⟨h3, h4⟩ := obB_iff.1 h2
        exact key _ _ (by simp only [srcA, hxt, (by simpa using h3 : sz = 1), if_true]) h4
      · exact h2.elim
    · exact h.elim
  · exact h.elim

def eopK (P : Program) (e : Operand → Option V) (o : Op) (t : TypeId) (H : AH) (K : Option V → AH → Prop) : Prop :=
  match o with
  | .store t a x =>
    match e a, e x, tsize P t with
    | some p, some v, some n => obB (decide (v.cells.length = n) && v.cells.all V.one) (asPtr p fun b i => stK H b i v.cells fun H' => K none H')
    | _, _, _ => False
  | .mapUpdate t m k x =>
    match e m, e k, e x, P.underlying t with
    | some mv, some kv, some xv, some (.map kt _) => obB (kindOk P kt kv) (asMap mv fun b => mpK H b kv xv fun H' => K none H')
    | _, _, _, _ => False
  | .insert t m k x =>
    match e m, e k, e x, P.underlying t with
    | some mv, some kv, some xv, some (.map kt _) => obB (kindOk P kt kv) (asMap mv fun b => mpK H b kv xv fun H' => K none H')
    | _, _, _, _ => False
  | .call c =>
    match c.callee with
    | .value f =>
      match e f, evL e c.args.toList with
      | some (.fn g first cap), some vs => CallsA P g (first ++ vs ++ cap) H fun v H' => shapeT P t v fun v => K (some v) H'
      | _, _ => False
    | .builtin .append =>
      match c.argTypes.toList, evL e c.args.toList with
      | [t, xt], some [s, x] => apK P H t xt s x fun v H' => K (some v) H'
      | _, _ => False
    | _ => False
  | _ => False

theorem eopK_out {P : Program} {e : Operand → Option V} {o : Op} {t : TypeId} {H : AH} {K : Option V → AH → Prop} (h : eopK P e o t H K) : eop P e o H K := by
  have mk : ∀ t mv kv xv kt el, P.underlying t = some (.map kt el) → obB (kindOk P kt kv) (asMap mv fun b => mpK H b kv xv fun H' => K none H') → ∃ H', mapA P H t mv kv xv = some H' ∧ K none H' := by
    intro t mv kv xv kt el hu h
    obtain ⟨h1, h2⟩ := obB_iff.1 h
    cases mv <;> simp only [asMap] at h2
    unfold mpK at h2
    split at h2
    · rename_i es hb
      split at h2
      · rename_i es' he
        exact ⟨_, by simp only [mapA, hu, hb, h1, if_true, he]; rfl, h2⟩
      · exact h2.elim
    · exact h2.elim
  cases o <;> simp only [eopK] at h <;> simp only [eop] <;> try exact h.elim
  case store t a x =>
    split at h
    · rename_i p v n h1 h2 h3
      obtain ⟨h4, h5⟩ := obB_iff.1 h
      cases p <;> simp only [asPtr] at h5
      unfold stK at h5
      split at h5
      · rename_i H' hs
        simp only [Bool.and_eq_true, decide_eq_true_eq] at h4
        simp only [h1, h2, h3, h4, and_self, if_true, hs]
        exact h5
      · exact h5.elim
    · exact h.elim
  case mapUpdate t m k x =>
    split at h
    · rename_i mv kv xv kt el h1 h2 h3 hu
      obtain ⟨H', h4, h5⟩ := mk t mv kv xv kt el hu h
      simp only [h1, h2, h3, h4]
      exact h5
    · exact h.elim
  case insert t m k x =>
    split at h
    · rename_i mv kv xv kt el h1 h2 h3 hu
      obtain ⟨H', h4, h5⟩ := mk t mv kv xv kt el hu h
      simp only [h1, h2, h3, h4]
      exact h5
    · exact h.elim
  case call c =>
    split at h
    · rename_i f hc
      split at h
      · rename_i g first cap vs h1 h2
        simp only [hc, h1, h2]
        exact h.mono fun v H' hv => shapeT_out hv
      · exact h.elim
    · rename_i hc
      split at h
      · rename_i t xt s x h1 h2
        simp only [hc, h1, h2]
        obtain ⟨v, H', h3, h4⟩ := apK_out h
        rw [h3]
        exact h4
      · exact h.elim
    · exact h.elim

/-! ### What was read is asked again -/
def reL (H : AH) (b i : Nat) : Nat → List V → Prop
  | _, [] => True
  | j, v :: vs => H.cell b (i + j) = some v ∧ reL H b i (j + 1) vs

def reK (P : Program) (e : Operand → Option V) (H0 H : AH) (nb : Nat) (op : Op) (v : V) (ob : Option Blk) : Prop :=
  match op with
  | .load t a => match e a, tagg P t with
    | some (.ptr b i), true => (match v with | .agg vs => reL H b i 0 vs | _ => False)
    | some (.ptr b i), false => H.cell b i = some v
    | _, _ => False
  | .lookup t m k ok => match e m with
    | some (.map b) => H[b]? = H0[b]?
    | _ => False
  | .convert s d x => match e x with
    | some (.sl b i n c) => H[b]? = H0[b]?
    | _ => fop P e H nb op = some (v, ob)
  | op => fop P e H nb op = some (v, ob)

theorem reL_out {H : AH} {b i : Nat} : ∀ {vs : List V} {j : Nat}, reL H b i j vs → ∀ k v, vs[k]? = some v → H.cell b (i + (j + k)) = some v
  | [], _, _, k, v, hv => by simp at hv
  | u :: vs, j, h, k, v, hv => by
    simp only [reL] at h
    cases k with
    | zero => simp at hv; subst hv; exact h.1
    | succ k => have := reL_out h.2 k v (by simpa using hv); rwa [show j + 1 + k = j + (k + 1) by omega] at this

theorem cellsN_length {H : AH} {b i n : Nat} {l : List V} (h : H.cellsN b i n = some l) : l.length = n := by
  cases n with
  | zero => rw [cellsN_zero h]; rfl
  | succ n =>
    simp only [AH.cellsN, AH.cellsS] at h
    split at h
    · split at h
      · injection h with h
        subst h
        simp
        omega
      · cases h
    · cases h

theorem reK_out {P : Program} {e : Operand → Option V} {H H' : AH} {nb : Nat} {op : Op} {v : V} {ob : Option Blk} (h0 : fop P e H nb op = some (v, ob)) (h : reK P e H H' nb op v ob) : fop P e H' nb op = some (v, ob) := by
  unfold reK at h
  split at h
  · rename_i t a
    split at h
    · rename_i b i ha hg
      simp only [fop, ha, hg, if_true] at h0 ⊢
      split at h0
      · rename_i ht
        simp only [ht, if_true]
        split at h0
        · rename_i n hs
          simp only [Option.map_eq_some_iff, Prod.mk.injEq] at h0
          obtain ⟨l, hl, rfl, rfl⟩ := h0
          simp only at h
          have h1 := reL_out h
          have h2 : H'.cellsN b i l.length = some l := cellsN_of fun j v hv => by have := h1 j v hv; rwa [Nat.zero_add] at this
          rw [cellsN_length hl] at h2
          simp [h2]
        · cases h0
      · cases h0
    · rename_i b i ha hg
      simp only [fop, ha, hg, Bool.false_eq_true, if_false] at h0 ⊢
      split at h0
      · rename_i ht
        simp only [ht, if_true]
        simp only [Option.map_eq_some_iff, Prod.mk.injEq] at h0
        obtain ⟨u, hl, rfl, rfl⟩ := h0
        simp [h]
      · cases h0
    · exact h.elim
  · split at h
    · rename_i m k okb x b hm
      simp only [fop, hm] at h0 ⊢
      rw [← h0]
      cases hk : e k with
      | none => rfl
      | some kv =>
        have hl : ∀ t kv ok, lookupA P H' t (.map b) kv ok = lookupA P H t (.map b) kv ok := by
          intro t kv ok
          unfold lookupA
          split <;> simp_all
        simp only [hl]
    · exact h.elim
  · split at h
    · rename_i s d x b i n c hx
      simp only [fop, hx] at h0 ⊢
      rw [← h0]
      have : ∀ i n, H'.cellsN b i n = H.cellsN b i n := by
        intro i n
        cases n <;> simp only [AH.cellsN, AH.cellsS, h]
      unfold convA
      split <;> simp_all
    · exact h
  · exact h

end Go.Proofs.YtpjkammmoaeheaaDoor.Aw
