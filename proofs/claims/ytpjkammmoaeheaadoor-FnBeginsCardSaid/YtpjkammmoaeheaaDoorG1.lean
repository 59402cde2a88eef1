/- A calculus of weakest preconditions over an abstract heap, for programs of the model's Go, proved sound: words, relation to worlds, operations. -/
import Derived.Test.YtpjkammmoaeheaaDoorProg
import Derived.Lib.LaidTab
import Derived.Lib.ItoaNum
import Derived.Orders
import Derived.Below
import Derived.LoopN
import Derived.KernelRfl
import Derived.Laws.Entries
import Derived.Laws.Slices
import Derived.Lib.Bytes
import Derived.Laws.StructEq
import Derived.Laws.BytesString
import Derived.Laws.IdiomMaps
import Derived.Laws.MakeOwn
import Derived.Laws.IdiomStrings
import Derived.Laws.AppendOwn

/- What the worlds at hand hold in the library's tables. -/
namespace Go.Proofs.YtpjkammmoaeheaaDoor.Aw
open Go

/-- The library's table of powers lies in the world as its text lays it. -/
def GoodW (w : World) : Prop := Lib.TabIs Go.Proofs.Tryd.prog w "internal/strconv.uint64pow10" .u64 Lib.pow10Tab

end Go.Proofs.YtpjkammmoaeheaaDoor.Aw

/- The words of a small calculus over an abstract heap: values, blocks, what an operation yields. Plain definitions and their first laws; nothing of the program. -/
namespace Go.Proofs.YtpjkammmoaeheaaDoor.Aw
open Go Go.RowKit

inductive Cap where
  | nil
  | ex (c : Nat)
  | toEnd (sz : Nat)
  deriving DecidableEq

def Cap.isNil : Cap → Bool
  | .nil => true
  | .ex _ => false
  | .toEnd _ => false

/-- An abstract value: an address is the number of an abstract block and a place in it. -/
inductive V where
  | int (k : IntKind) (n : Int)
  | bool (b : Bool)
  | str (s : List UInt8)
  | ptr (b i : Nat)
  | nilp
  | sl (b i n : Nat) (c : Cap)
  | map (b : Nat)
  | nilm
  | fn (f : Nat) (first cap : List V)
  | nilf
  | iface (t : Nat) (v : V)
  | nili
  | agg (cs : List V)
  | tup (vs : List V)

def V.cells : V → List V
  | .agg cs => cs
  | v => [v]

/-- A value of one cell. -/
def V.one : V → Bool
  | .agg _ => false
  | .tup _ => false
  | _ => true

inductive Blk where
  | cells (vs : List V) (ro : Bool)
  | mp (es : List (V × V))
  | dead

abbrev AH := List Blk

def AH.cell (H : AH) (b i : Nat) : Option V :=
  match H[b]? with
  | some (.cells vs _) => vs[i]?
  | _ => none

def AH.cellsS (H : AH) (b i n : Nat) : Option (List V) :=
  match H[b]? with
  | some (.cells vs _) => if i + n ≤ vs.length then some ((vs.drop i).take n) else none
  | _ => none

/-- Cells in a row; none asked for: none, wherever. -/
def AH.cellsN (H : AH) (b i n : Nat) : Option (List V) :=
  match n with
  | 0 => some []
  | m + 1 => H.cellsS b i (m + 1)

def putL {α : Type} : List α → Nat → List α → List α
  | vs, _, [] => vs
  | vs, i, c :: r => putL (vs.set i c) (i + 1) r

def AH.setN (H : AH) (b i : Nat) (cs : List V) : Option AH :=
  match H[b]? with
  | some (.cells vs false) => if i + cs.length ≤ vs.length then some (H.set b (.cells (putL vs i cs) false)) else none
  | _ => none

abbrev Env := List (Nat × V)

def getE : Env → Nat → Option V
  | [], _ => none
  | (t, v) :: r, x => if x == t then some v else getE r x

def delE : Env → Nat → Env
  | [], _ => []
  | (t, v) :: r, x => if x == t then delE r x else (t, v) :: delE r x

def putE (e : Env) (t : Nat) (v : V) : Env := (t, v) :: delE e t

def keepE (e : Env) : List Nat → Env
  | [] => []
  | t :: r => match getE e t with
    | some v => (t, v) :: keepE e r
    | none => keepE e r

theorem getE_del (e : Env) (t x : Nat) : getE (delE e t) x = if x = t then none else getE e x := by
  induction e with
  | nil => simp [delE, getE]
  | cons a r ih =>
    obtain ⟨u, v⟩ := a
    simp only [delE]
    by_cases h : t = u
    · subst h
      simp only [beq_self_eq_true, if_true, ih, getE]
      by_cases hx : x = t <;> simp [hx]
    · have : (t == u) = false := by simpa using h
      simp only [this, Bool.false_eq_true, if_false, getE, ih]
      by_cases hx : x = u
      · subst hx
        have : ¬ x = t := fun h' => h h'.symm
        simp [this]
      · simp [hx]

theorem getE_put (e : Env) (t x : Nat) (v : V) : getE (putE e t v) x = if x = t then some v else getE e x := by
  simp only [putE, getE, getE_del]
  by_cases h : x = t <;> simp [h]

theorem getE_keep (e : Env) (l : List Nat) (x : Nat) (v : V) (h : getE (keepE e l) x = some v) : getE e x = some v := by
  induction l with
  | nil => simp [keepE, getE] at h
  | cons t r ih =>
    simp only [keepE] at h
    cases ht : getE e t with
    | none => simp only [ht] at h; exact ih h
    | some u =>
      simp only [ht, getE] at h
      by_cases hx : x = t
      · subst hx; simp at h; rw [ht, h]
      · have : (x == t) = false := by simpa using hx
        simp only [this, Bool.false_eq_true, if_false] at h
        exact ih h

/-! ### Constants -/
def vOf1 : Value → Option V
  | .int k n => some (.int k n)
  | .bool b => some (.bool b)
  | .string s => some (.str s.data.toList)
  | .pointer none => some .nilp
  | .slice none 0 0 => some (.sl 0 0 0 .nil)
  | .map none => some .nilm
  | .nilFunc => some .nilf
  | .nilIface => some .nili
  | _ => none

def vOfL : List Value → Option (List V)
  | [] => some []
  | v :: r => match vOf1 v, vOfL r with
    | some a, some l => some (a :: l)
    | _, _ => none

def vOf : Value → Option V
  | .agg cs => (vOfL cs.toList).map .agg
  | .tuple vs => (vOfL vs.toList).map .tup
  | v => vOf1 v

def ev (e : Env) : Operand → Option V
  | .tmp t => getE e t
  | .const v => vOf v
  | .func f => some (.fn f [] [])
  | .global _ => none

def evL (e : Operand → Option V) : List Operand → Option (List V)
  | [] => some []
  | x :: r => match e x, evL e r with
    | some a, some l => some (a :: l)
    | _, _ => none

/-! ### Types -/
def tsize (P : Program) (t : TypeId) : Option Nat := (P.info? t).map (·.size)
def tbytes (P : Program) (t : TypeId) : Nat := ((P.info? t).map (·.bytes)).getD 0
def tagg (P : Program) (t : TypeId) : Bool :=
  match P.underlying t with
  | some (.struct _) => true
  | some (.array _ _) => true
  | _ => false
def tok (P : Program) (t : TypeId) : Bool := (P.underlying t).isSome
def tzero (P : Program) (t : TypeId) : Option V := ((P.info? t).bind (·.zero)).bind vOf

/-! ### Operations on values alone -/
def intA (op : BinOp) (k : IntKind) (a b : Int) : Option V :=
  match op with
  | .add => some (.int k (k.wrap (a + b)))
  | .sub => some (.int k (k.wrap (a - b)))
  | .mul => some (.int k (k.wrap (a * b)))
  | .quo => if b = 0 then none else some (.int k (k.wrap (a.tdiv b)))
  | .rem => if b = 0 then none else some (.int k (a.tmod b))
  | .eql => some (.bool (a == b))
  | .neq => some (.bool (a != b))
  | .lss => some (.bool (decide (a < b)))
  | .leq => some (.bool (decide (a ≤ b)))
  | .gtr => some (.bool (decide (a > b)))
  | .geq => some (.bool (decide (a ≥ b)))
  | .and => some (.int k (k.wrap ((BitVec.ofInt k.bits a &&& BitVec.ofInt k.bits b).toNat)))
  | .or => some (.int k (k.wrap ((BitVec.ofInt k.bits a ||| BitVec.ofInt k.bits b).toNat)))
  | .xor => some (.int k (k.wrap ((BitVec.ofInt k.bits a ^^^ BitVec.ofInt k.bits b).toNat)))
  | _ => none

def shA (op : BinOp) (k : IntKind) (a b : Int) : Option V :=
  if b < 0 then none else
  match op with
  | .shl => some (.int k (k.wrap (a * 2 ^ (min b.toNat k.bits))))
  | .shr => some (.int k (a.fdiv (2 ^ (min b.toNat k.bits))))
  | _ => none

def strA (op : BinOp) (a b : List UInt8) : Option V :=
  match op with
  | .add => if a.length + b.length ≤ 9223372036854775807 then some (.str (a ++ b)) else none
  | .eql => some (.bool (a == b))
  | .neq => some (.bool (!(a == b)))
  | .lss => some (.bool (Op.bytesLess a b))
  | .leq => some (.bool (Op.bytesLess a b || a == b))
  | .gtr => some (.bool (!(Op.bytesLess a b || a == b)))
  | .geq => some (.bool (!(Op.bytesLess a b)))
  | _ => none

/-- Whether cells of plain kinds are the same: as far as the first that are not. -/
def eqCells : List V → List V → Option Bool
  | [], [] => some true
  | .int k a :: r, .int k' b :: s => if k = k' then (if a == b then eqCells r s else some false) else none
  | .bool a :: r, .bool b :: s => if a == b then eqCells r s else some false
  | .str a :: r, .str b :: s => if a == b then eqCells r s else some false
  | _, _ => none

def plainKind (P : Program) (t : TypeId) : Bool :=
  match P.underlying t with
  | some (.int _) => true
  | some .bool => true
  | some .string => true
  | _ => false

def kindOk (P : Program) (t : TypeId) (k : V) : Bool :=
  match P.underlying t, k with
  | some (.int _), .int _ _ => true
  | some .string, .str _ => true
  | some .bool, .bool _ => true
  | _, _ => false

def kindsOk (P : Program) : List Field → List V → Bool
  | [], [] => true
  | f :: fs, v :: vs => kindOk P f.type v && kindsOk P fs vs
  | _, _ => false

/-- A struct of fields of plain kinds, each at its place, none blank. -/
def flatFields (P : Program) : Nat → List Field → Bool
  | _, [] => true
  | k, f :: r => plainKind P f.type && f.offset == k && f.name != "_" && flatFields P (k + 1) r

def flatEq (P : Program) (t : TypeId) (xs : List V) : Option Nat :=
  match P.underlying t with
  | some (.struct fs) => if flatFields P 0 fs.toList && !P.stoodInHeld t && !(P.eqGuardType P.depth t) && kindsOk P fs.toList xs then some fs.size else none
  | _ => none

def nilEq : V → V → Option Bool
  | .ptr _ _, .nilp => some false
  | .nilp, .ptr _ _ => some false
  | .nilp, .nilp => some true
  | .sl _ _ _ c, .sl _ _ _ .nil => some c.isNil
  | .map _, .nilm => some false
  | .nilm, .nilm => some true
  | .fn _ _ _, .nilf => some false
  | .nilf, .nilf => some true
  | .iface _ _, .nili => some false
  | .nili, .iface _ _ => some false
  | _, _ => none

def nilKind (P : Program) (t : TypeId) : V → Bool
  | .nilp => match P.underlying t with | some (.pointer _) => true | _ => false
  | .sl _ _ _ .nil => match P.underlying t with | some (.slice _) => true | _ => false
  | .nilm => match P.underlying t with | some (.map _ _) => true | _ => false
  | .nilf => match P.underlying t with | some (.func _ _ _) => true | _ => false
  | .nili => match P.underlying t with | some (.interface _) => true | _ => false
  | .ptr _ _ => match P.underlying t with | some (.pointer _) => true | _ => false
  | _ => false

def binA (P : Program) (op : BinOp) (t : TypeId) (x y : V) : Option V :=
  match x, y with
  | .int k a, .int k' b =>
    match op with
    | .shl => shA .shl k a b
    | .shr => shA .shr k a b
    | op => if k = k' then intA op k a b else none
  | .str a, .str b => strA op a b
  | .bool a, .bool b =>
    match op, P.underlying t with
    | .eql, some .bool => some (.bool (a == b))
    | .neq, some .bool => some (.bool (!(a == b)))
    | _, _ => none
  | .agg xs, .agg ys =>
    match flatEq P t xs with
    | some n => if xs.length = n ∧ ys.length = n then
        match op, eqCells xs ys with
        | .eql, some b => some (.bool b)
        | .neq, some b => some (.bool (!b))
        | _, _ => none
      else none
    | none => none
  | x, y =>
    if nilKind P t y then
      match op, nilEq x y with
      | .eql, some b => some (.bool b)
      | .neq, some b => some (.bool (!b))
      | _, _ => none
    else none

def unA (op : UnOp) (x : V) : Option V :=
  match op, x with
  | .neg, .int k n => some (.int k (k.wrap (0 - n)))
  | .not, .bool b => some (.bool (!b))
  | _, _ => none

end Go.Proofs.YtpjkammmoaeheaaDoor.Aw

/- What an abstract value, an abstract heap stand for: addresses by a map of blocks; and what a new block, a store and a draw do to it. -/
namespace Go.Proofs.YtpjkammmoaeheaaDoor.Aw
open Go Go.RowKit

structure Ent where
  blk : Nat
  off : Nat
  ext : Nat

abbrev PMap := Nat → Option Ent

def PMap.le (p q : PMap) : Prop := ∀ b e, p b = some e → q b = some e
theorem PMap.le_refl (p : PMap) : p.le p := fun _ _ h => h
theorem PMap.le_trans {p q r : PMap} (h : p.le q) (k : q.le r) : p.le r := fun b e x => k b e (h b e x)
theorem PMap.le.le_trans {p q r : PMap} (h : p.le q) (k : q.le r) : p.le r := PMap.le_trans h k
def PMap.put (p : PMap) (b : Nat) (e : Ent) : PMap := fun x => if x = b then some e else p x
theorem PMap.le_put {p : PMap} {b : Nat} (e : Ent) (h : p b = none) : p.le (p.put b e) := by
  intro x y hx
  unfold PMap.put
  split
  · subst_vars; rw [h] at hx; cases hx
  · exact hx
theorem PMap.put_same (p : PMap) (b : Nat) (e : Ent) : p.put b e b = some e := by simp [PMap.put]
theorem PMap.put_ne (p : PMap) {b x : Nat} (e : Ent) (h : x ≠ b) : p.put b e x = p x := by simp [PMap.put, h]

def slR (e : Ent) (i n : Nat) : Cap → Value → Prop
  | .nil, _ => False
  | .ex c, r => n ≤ c ∧ (r = .slice (some ⟨e.blk, e.off + i, none⟩) n c ∨ (c = 0 ∧ ∃ a, r = .slice (some a) 0 0))
  | .toEnd sz, r => 0 < sz ∧ n ≤ (e.ext - i) / sz ∧ (r = .slice (some ⟨e.blk, e.off + i, none⟩) n ((e.ext - i) / sz) ∨ (n = 0 ∧ (e.ext - i) / sz = 0 ∧ ∃ a, r = .slice (some a) 0 0))

mutual
def Rn (p : PMap) : V → Value → Prop
  | .int k n, r => r = .int k n
  | .bool b, r => r = .bool b
  | .str s, r => r = .string ⟨⟨s⟩⟩
  | .ptr b i, r => ∃ e, p b = some e ∧ r = .pointer (some ⟨e.blk, e.off + i, none⟩)
  | .nilp, r => r = .pointer none
  | .sl b i n c, r => (c = .nil ∧ n = 0 ∧ r = .slice none 0 0) ∨ ∃ e, p b = some e ∧ slR e i n c r
  | .map b, r => ∃ e, p b = some e ∧ r = .map (some e.blk)
  | .nilm, r => r = .map none
  | .fn f a c, r => ∃ ra rc, r = .func (.func f) (List.toArray ra) (List.toArray rc) ∧ RnL p a ra ∧ RnL p c rc
  | .nilf, r => r = .nilFunc
  | .iface t v, r => ∃ x, r = .iface t x ∧ Rn p v x
  | .nili, r => r = .nilIface
  | .agg cs, r => ∃ rs, r = .agg (List.toArray rs) ∧ RnL p cs rs
  | .tup cs, r => ∃ rs, r = .tuple (List.toArray rs) ∧ RnL p cs rs
def RnL (p : PMap) : List V → List Value → Prop
  | [], rs => rs = []
  | v :: vs, rs => ∃ r rs', rs = r :: rs' ∧ Rn p v r ∧ RnL p vs rs'
end

mutual
theorem Rn.mono {p q : PMap} (h : p.le q) : ∀ (v : V) (r : Value), Rn p v r → Rn q v r
  | .int _ _, _, hr => by simpa [Rn] using hr
  | .bool _, _, hr => by simpa [Rn] using hr
  | .str _, _, hr => by simpa [Rn] using hr
  | .ptr _ _, _, hr => by
    simp only [Rn] at hr ⊢
    obtain ⟨e, he, hr⟩ := hr
    exact ⟨e, h _ _ he, hr⟩
  | .nilp, _, hr => by simpa [Rn] using hr
  | .sl _ _ _ _, _, hr => by
    simp only [Rn] at hr ⊢
    rcases hr with hr | ⟨e, he, hr⟩
    · exact .inl hr
    · exact .inr ⟨e, h _ _ he, hr⟩
  | .map _, _, hr => by
    simp only [Rn] at hr ⊢
    obtain ⟨e, he, hr⟩ := hr
    exact ⟨e, h _ _ he, hr⟩
  | .nilm, _, hr => by simpa [Rn] using hr
  | .fn _ a c, _, hr => by
    simp only [Rn] at hr ⊢
    obtain ⟨ra, rc, hr, h1, h2⟩ := hr
    exact ⟨ra, rc, hr, RnL.mono h a ra h1, RnL.mono h c rc h2⟩
  | .nilf, _, hr => by simpa [Rn] using hr
  | .iface _ v, _, hr => by
    simp only [Rn] at hr ⊢
    obtain ⟨x, hr, h1⟩ := hr
    exact ⟨x, hr, Rn.mono h v x h1⟩
  | .nili, _, hr => by simpa [Rn] using hr
  | .agg cs, _, hr => by
    simp only [Rn] at hr ⊢
    obtain ⟨x, hr, h1⟩ := hr
    exact ⟨x, hr, RnL.mono h cs x h1⟩
  | .tup cs, _, hr => by
    simp only [Rn] at hr ⊢
    obtain ⟨x, hr, h1⟩ := hr
    exact ⟨x, hr, RnL.mono h cs x h1⟩
theorem RnL.mono {p q : PMap} (h : p.le q) : ∀ (vs : List V) (rs : List Value), RnL p vs rs → RnL q vs rs
  | [], _, hr => by simpa [RnL] using hr
  | v :: vs, _, hr => by
    simp only [RnL] at hr ⊢
    obtain ⟨r, rs', hr, h1, h2⟩ := hr
    exact ⟨r, rs', hr, Rn.mono h v r h1, RnL.mono h vs rs' h2⟩
end

theorem RnL.length {p : PMap} : ∀ {vs : List V} {rs : List Value}, RnL p vs rs → rs.length = vs.length
  | [], _, h => by simp only [RnL] at h; subst h; rfl
  | _ :: _, _, h => by
    simp only [RnL] at h
    obtain ⟨r, rs', rfl, _, h2⟩ := h
    simp [RnL.length h2]

theorem RnL.get {p : PMap} : ∀ {vs : List V} {rs : List Value}, RnL p vs rs → ∀ (i : Nat) (v : V), vs[i]? = some v → ∃ r, rs[i]? = some r ∧ Rn p v r
  | [], _, _, _, _, hv => by simp at hv
  | _ :: _, _, h, i, v, hv => by
    simp only [RnL] at h
    obtain ⟨r, rs', rfl, h1, h2⟩ := h
    cases i with
    | zero => simp at hv; subst hv; exact ⟨r, by simp, h1⟩
    | succ i => simp at hv; obtain ⟨x, hx, hr⟩ := RnL.get h2 i v hv; exact ⟨x, by simpa using hx, hr⟩

theorem RnL.of_get {p : PMap} : ∀ {vs : List V} {rs : List Value}, rs.length = vs.length → (∀ (i : Nat) (v : V) (r : Value), vs[i]? = some v → rs[i]? = some r → Rn p v r) → RnL p vs rs
  | [], rs, hl, _ => by simp only [RnL]; exact List.eq_nil_of_length_eq_zero (by simpa using hl)
  | v :: vs, rs, hl, h => by
    cases rs with
    | nil => simp at hl
    | cons r rs =>
      simp only [RnL]
      exact ⟨r, rs, rfl, h 0 v r (by simp) (by simp), RnL.of_get (by simpa using hl) fun i x y hx hy => h (i + 1) x y (by simpa using hx) (by simpa using hy)⟩

theorem RnL.append {p : PMap} : ∀ {vs us : List V} {rs ss : List Value}, RnL p vs rs → RnL p us ss → RnL p (vs ++ us) (rs ++ ss)
  | [], _, _, _, h, k => by simp only [RnL] at h; subst h; simpa using k
  | _ :: _, _, _, _, h, k => by
    simp only [RnL, List.cons_append] at h ⊢
    obtain ⟨r, rs', rfl, h1, h2⟩ := h
    exact ⟨r, rs' ++ _, rfl, h1, RnL.append h2 k⟩

theorem Rn.one {p : PMap} {v : V} {r : Value} (h : Rn p v r) (h1 : v.one = true) : r.oneCell' = true := by
  cases v <;> simp only [V.one, Bool.false_eq_true] at h1 <;> simp only [Rn] at h
  case int => subst h; rfl
  case bool => subst h; rfl
  case str => subst h; rfl
  case ptr => obtain ⟨e, _, rfl⟩ := h; rfl
  case nilp => subst h; rfl
  case sl b i n c =>
    rcases h with ⟨_, _, rfl⟩ | ⟨e, _, h⟩
    · rfl
    cases c with
    | nil => simp only [slR] at h
    | ex c => simp only [slR] at h; rcases h.2 with rfl | ⟨_, a, rfl⟩ <;> rfl
    | toEnd sz => simp only [slR] at h; rcases h.2.2 with rfl | ⟨_, _, a, rfl⟩ <;> rfl
  case map => obtain ⟨e, _, rfl⟩ := h; rfl
  case nilm => subst h; rfl
  case fn => obtain ⟨_, _, rfl, _⟩ := h; rfl
  case nilf => subst h; rfl
  case iface => obtain ⟨_, rfl, _⟩ := h; rfl
  case nili => subst h; rfl

theorem Rn.cells {p : PMap} {v : V} {r : Value} (h : Rn p v r) (hv : ∀ x ∈ v.cells, x.one = true) : ∃ rs, r.cells = List.toArray rs ∧ RnL p v.cells rs := by
  cases v
  case agg cs => simp only [Rn] at h; obtain ⟨rs, rfl, h⟩ := h; exact ⟨rs, rfl, h⟩
  case tup cs => have := hv (.tup cs) (by simp [V.cells]); simp [V.one] at this
  all_goals
    have h1 := h.one rfl
    refine ⟨[r], ?_, by simp only [V.cells, RnL]; exact ⟨r, [], rfl, h, rfl⟩⟩
    cases r <;> simp [Value.oneCell'] at h1 <;> rfl

def CellsR (p : PMap) (vs : List V) (cs : Array Value) (off : Nat) : Prop :=
  ∀ (i : Nat) (v : V), vs[i]? = some v → v.one = true ∧ ∃ r, cs[off + i]? = some r ∧ Rn p v r

def MapR (p : PMap) : List (V × V) → List MapEntry → Prop
  | [], l => l = []
  | (k, v) :: r, l => ∃ e l', l = e :: l' ∧ Rn p k e.key ∧ Rn p v e.val ∧ MapR p r l'

theorem MapR.mono {p q : PMap} (h : p.le q) : ∀ {es : List (V × V)} {l : List MapEntry}, MapR p es l → MapR q es l
  | [], _, hr => hr
  | _ :: _, _, hr => by
    obtain ⟨e, l', rfl, h1, h2, h3⟩ := hr
    exact ⟨e, l', rfl, h1.mono h, h2.mono h, h3.mono h⟩

def BlkR (w0 : World) (p : PMap) (w : World) (e : Ent) : Option Blk → Prop
  | some (.cells vs ro) => ∃ cs t fz, w.heap[e.blk]? = some (.cells cs t fz) ∧ e.off + e.ext ≤ cs.size ∧ vs.length ≤ e.ext ∧ CellsR p vs cs e.off ∧
      (if ro then e.blk < w0.heap.size else w0.heap.size ≤ e.blk ∧ ∀ i, i < cs.size → ¬ (fz.1 ≤ i ∧ i < fz.2))
  | some (.mp es) => ∃ rs clk, w.heap[e.blk]? = some (.map rs clk) ∧ MapR p es rs.toList ∧ w0.heap.size ≤ e.blk
  | some .dead => True
  | none => False

def live (H : AH) (b : Nat) : Prop :=
  match H[b]? with
  | some (.cells _ ro) => ro = false
  | some (.mp _) => True
  | _ => False

structure Inv (w0 : World) (p : PMap) (H : AH) (w : World) : Prop where
  below : Below w0.heap.size w0 w
  blocks : ∀ b e, p b = some e → BlkR w0 p w e H[b]?
  inj : ∀ b b' e e', p b = some e → p b' = some e' → live H b → live H b' → e.blk = e'.blk → b = b'
  glob : GoodW w0

theorem CellsR.mono {p q : PMap} (h : p.le q) {vs : List V} {cs : Array Value} {off : Nat} (hr : CellsR p vs cs off) : CellsR q vs cs off :=
  fun i v hv => let ⟨h1, r, h2, h3⟩ := hr i v hv; ⟨h1, r, h2, h3.mono h⟩

theorem BlkR.mono {w0 w w' : World} {p q : PMap} (h : p.le q) {e : Ent} {o : Option Blk} (hw : o ≠ some .dead → w'.heap[e.blk]? = w.heap[e.blk]?) (hr : BlkR w0 p w e o) : BlkR w0 q w' e o := by
  unfold BlkR at *
  split <;> simp only [] at hr
  · obtain ⟨cs, t, fz, h1, h2, h3, h4, h5⟩ := hr
    exact ⟨cs, t, fz, by rw [hw (by simp)]; exact h1, h2, h3, h4.mono h, h5⟩
  · obtain ⟨rs, clk, h1, h2, h3⟩ := hr
    exact ⟨rs, clk, by rw [hw (by simp)]; exact h1, h2.mono h, h3⟩
  · trivial

theorem heap_lt {w : World} {b : Nat} {o : Obj} (h : w.heap[b]? = some o) : b < w.heap.size := by
  rcases Nat.lt_or_ge b w.heap.size with hlt | hge
  · exact hlt
  · rw [Array.getElem?_eq_none hge] at h; cases h

theorem BlkR.lt {w0 w : World} {p : PMap} {e : Ent} {o : Option Blk} (hr : BlkR w0 p w e o) (hd : o ≠ some .dead) : e.blk < w.heap.size := by
  unfold BlkR at hr
  split at hr
  · obtain ⟨cs, t, fz, h1, _⟩ := hr; exact heap_lt h1
  · obtain ⟨rs, clk, h1, _⟩ := hr; exact heap_lt h1
  · exact absurd rfl hd
  · exact hr.elim

variable {w0 w : World} {p : PMap} {H T : AH}

theorem Inv.lt (h : Inv w0 p H w) {b : Nat} {e : Ent} (hb : p b = some e) : b < H.length := by
  have := h.blocks b e hb
  rcases Nat.lt_or_ge b H.length with hlt | hge
  · exact hlt
  · rw [List.getElem?_eq_none hge] at this; exact this.elim

/-- New blocks behind the others that nothing maps to yet. -/
theorem Inv.more (h : Inv w0 p H w) (hT : ∀ b, b < H.length → T[b]? = H[b]?) : Inv w0 p T w := by
  refine ⟨h.below, fun b e hb => by rw [hT b (h.lt hb)]; exact h.blocks b e hb, fun b b' e e' hb hb' h1 h2 => ?_, h.glob⟩
  unfold live at h1 h2
  rw [hT b (h.lt hb)] at h1
  rw [hT b' (h.lt hb')] at h2
  exact h.inj b b' e e' hb hb' h1 h2

theorem Inv.app (h : Inv w0 p H w) (l : List Blk) : Inv w0 p (H ++ l) w := h.more fun _ hb => List.getElem?_append_left hb

theorem Inv.drew (h : Inv w0 p H w) : Inv w0 p H w.drew := ⟨h.below.drew, fun b e hb => (h.blocks b e hb).mono (PMap.le_refl _) (fun _ => rfl), h.inj, h.glob⟩

theorem Inv.base_le (h : Inv w0 p H w) : w0.heap.size ≤ w.heap.size := h.below.size

/-- A new block of the world, for the abstract block 'b' that is there and that nothing maps to yet. -/
theorem Inv.allocO (h : Inv w0 p H w) {b : Nat} (hp : p b = none) {o : Obj} {k : Nat}
    (hb : BlkR w0 (p.put b ⟨w.heap.size, 0, k⟩) (w.alloc o) ⟨w.heap.size, 0, k⟩ H[b]?) : Inv w0 (p.put b ⟨w.heap.size, 0, k⟩) H (w.alloc o) := by
  have hle := PMap.le_put ⟨w.heap.size, 0, k⟩ hp
  refine ⟨h.below.alloc h.base_le o, fun x e hx => ?_, fun x y e e' hx hy h1 h2 he => ?_, h.glob⟩
  · by_cases hxb : x = b
    · subst hxb
      rw [PMap.put_same] at hx
      injection hx with hx
      subst hx
      exact hb
    · rw [PMap.put_ne _ _ hxb] at hx
      have := h.blocks x e hx
      exact this.mono hle fun hd => Below.heap_alloc _ _ _ (this.lt hd)
  · by_cases hxb : x = b <;> by_cases hyb : y = b
    · rw [hxb, hyb]
    · subst hxb
      rw [PMap.put_same] at hx
      injection hx with hx
      subst hx
      rw [PMap.put_ne _ _ hyb] at hy
      have hd : H[y]? ≠ some .dead := fun hd => by simp [live, hd] at h2
      have := (h.blocks y e' hy).lt hd
      simp only at he
      omega
    · subst hyb
      rw [PMap.put_same] at hy
      injection hy with hy
      subst hy
      rw [PMap.put_ne _ _ hxb] at hx
      have hd : H[x]? ≠ some .dead := fun hd => by simp [live, hd] at h1
      have := (h.blocks x e hx).lt hd
      simp only at he
      omega
    · rw [PMap.put_ne _ _ hxb] at hx
      rw [PMap.put_ne _ _ hyb] at hy
      exact h.inj x y e e' hx hy h1 h2 he

theorem Inv.alloc (h : Inv w0 p H w) {b : Nat} (hp : p b = none) {vs : List V} (hb : H[b]? = some (.cells vs false)) {cs : Array Value} {t : TypeId} {fz : Nat × Nat}
    (hl : vs.length ≤ cs.size) (hc : CellsR p vs cs 0) (hf : ∀ i, i < cs.size → ¬ (fz.1 ≤ i ∧ i < fz.2)) :
    Inv w0 (p.put b ⟨w.heap.size, 0, cs.size⟩) H (w.alloc (.cells cs t fz)) := by
  refine h.allocO hp ?_
  rw [hb]
  refine ⟨cs, t, fz, ?_, by simp, hl, hc.mono (PMap.le_put _ hp), ?_⟩
  · show (w.heap.push _)[w.heap.size]? = _
    simp
  · simp only [Bool.false_eq_true, if_false]; exact ⟨h.base_le, hf⟩

theorem Inv.allocMap (h : Inv w0 p H w) {b : Nat} (hp : p b = none) (hb : H[b]? = some (.mp [])) (clk : Nat) :
    Inv w0 (p.put b ⟨w.heap.size, 0, 0⟩) H (w.alloc (.map #[] clk)) := by
  refine h.allocO hp ?_
  rw [hb]
  refine ⟨#[], clk, ?_, by simp [MapR], h.base_le⟩
  show (w.heap.push _)[w.heap.size]? = _
  simp

theorem Inv.cell (h : Inv w0 p H w) {b i : Nat} {v : V} (hc : H.cell b i = some v) {e : Ent} (he : p b = some e) :
    v.one = true ∧ ∃ r, w.cell? ⟨e.blk, e.off + i, none⟩ = some r ∧ Rn p v r := by
  unfold AH.cell at hc
  have hb := h.blocks b e he
  cases hH : H[b]? with
  | none => simp [hH] at hc
  | some x =>
    cases x with
    | cells vs ro =>
      simp only [hH] at hc
      rw [hH] at hb
      obtain ⟨cs, t, fz, h1, h2, h3, h4, h5⟩ := hb
      obtain ⟨ho, r, hr, hn⟩ := h4 i v hc
      exact ⟨ho, r, by simp [World.cell?, h1, hr], hn⟩
    | mp es => simp [hH] at hc
    | dead => simp [hH] at hc

theorem Inv.cellsS (h : Inv w0 p H w) {b i n : Nat} {vs : List V} (hc : H.cellsS b i n = some vs) {e : Ent} (he : p b = some e) :
    vs.length = n ∧ (∀ v ∈ vs, v.one = true) ∧ ∃ rs, rs.length = n ∧ RnL p vs rs ∧ ∀ j r, rs[j]? = some r → w.cell? ⟨e.blk, e.off + i + j, none⟩ = some r := by
  unfold AH.cellsS at hc
  have hb := h.blocks b e he
  cases hH : H[b]? with
  | none => simp [hH] at hc
  | some x =>
    cases x with
    | cells us ro =>
      simp only [hH] at hc
      rw [hH] at hb
      obtain ⟨cs, t, fz, h1, h2, h3, h4, h5⟩ := hb
      split at hc
      case isFalse => cases hc
      case isTrue hle =>
        injection hc with hc
        subst hc
        have hlen : ((us.drop i).take n).length = n := by simp; omega
        refine ⟨hlen, ?_, (cs.toList.drop (e.off + i)).take n, by simp; omega, RnL.of_get (by simp; omega) ?_, ?_⟩
        · intro v hv
          obtain ⟨j, hj⟩ := List.mem_iff_getElem?.1 hv
          rw [List.getElem?_take] at hj
          split at hj
          · rw [List.getElem?_drop] at hj
            exact (h4 _ _ hj).1
          · cases hj
        · intro j v r hv hr
          rw [List.getElem?_take] at hv hr
          split at hv
          · rename_i hj
            rw [if_pos hj] at hr
            rw [List.getElem?_drop] at hv hr
            obtain ⟨_, r', hr', hn⟩ := h4 _ _ hv
            rw [Array.getElem?_toList, Nat.add_assoc, hr'] at hr
            injection hr with hr
            exact hr ▸ hn
          · cases hv
        · intro j r hr
          rw [List.getElem?_take] at hr
          split at hr
          · rw [List.getElem?_drop, Array.getElem?_toList] at hr
            simp [World.cell?, h1, hr]
          · cases hr
    | mp es => simp [hH] at hc
    | dead => simp [hH] at hc

theorem Inv.cellsN (h : Inv w0 p H w) {b i n : Nat} {vs : List V} (hc : H.cellsN b i n = some vs) {e : Ent} (he : p b = some e) :
    vs.length = n ∧ (∀ v ∈ vs, v.one = true) ∧ ∃ rs, rs.length = n ∧ RnL p vs rs ∧ ∀ j r, rs[j]? = some r → w.cell? ⟨e.blk, e.off + i + j, none⟩ = some r := by
  unfold AH.cellsN at hc
  split at hc
  · injection hc with hc
    subst hc
    exact ⟨rfl, by simp, [], rfl, by simp [RnL], by simp⟩
  · exact h.cellsS hc he

theorem cellsN_zero {H : AH} {b i : Nat} {l : List V} (h : H.cellsN b i 0 = some l) : l = [] := by
  simp only [AH.cellsN, Option.some.injEq] at h
  exact h.symm

theorem heap_setCell_same (w : World) (a : Addr) (v : Value) (cs : Array Value) (t : TypeId) (fz : Nat × Nat) (h : w.heap[a.block]? = some (.cells cs t fz)) (hs : a.spot = none) :
    (w.setCell a v).heap[a.block]? = some (.cells (cs.setIfInBounds a.off v) t fz) := by
  simp [World.setCell, Array.getElem?_modify, h, hs]

/-- One cell of a block of the call's own is written. -/
theorem Inv.set1 (h : Inv w0 p H w) {b i : Nat} {vs : List V} (hb : H[b]? = some (.cells vs false)) (hi : i < vs.length) {e : Ent} (he : p b = some e)
    {v : V} {r : Value} (ho : v.one = true) (hr : Rn p v r) :
    Inv w0 p (H.set b (.cells (vs.set i v) false)) (w.setCell ⟨e.blk, e.off + i, none⟩ r) ∧
      (∃ u, w.cell? ⟨e.blk, e.off + i, none⟩ = some u) ∧ w.frozen? ⟨e.blk, e.off + i, none⟩ = false := by
  have hbl := h.blocks b e he
  rw [hb] at hbl
  obtain ⟨cs, t, fz, h1, h2, h3, h4, h5⟩ := hbl
  simp only [Bool.false_eq_true, if_false] at h5
  have hlt : e.off + i < cs.size := by omega
  have hbH : b < H.length := h.lt he
  refine ⟨⟨h.below.setCell h5.1 r, fun x f hx => ?_, fun x y f g hx hy l1 l2 hfg => ?_, h.glob⟩, ⟨cs[e.off + i], by simp [World.cell?, h1, hlt]⟩, ?_⟩
  · by_cases hxb : x = b
    · subst hxb
      rw [he] at hx
      injection hx with hx
      subst hx
      rw [List.getElem?_set_self hbH]
      refine ⟨cs.setIfInBounds (e.off + i) r, t, fz, heap_setCell_same w ⟨e.blk, e.off + i, none⟩ r cs t fz h1 rfl, by simpa using h2, by simpa using h3, ?_, ?_⟩
      · intro j u hu
        rw [List.getElem?_set] at hu
        by_cases hij : i = j
        · subst hij
          rw [if_pos rfl, if_pos hi] at hu
          injection hu with hu
          subst hu
          exact ⟨ho, r, by simp [hlt], hr⟩
        · rw [if_neg hij] at hu
          obtain ⟨h6, r', h7, h8⟩ := h4 j u hu
          exact ⟨h6, r', by rw [Array.getElem?_setIfInBounds_ne (by omega)]; exact h7, h8⟩
      · simpa using h5
    · rw [List.getElem?_set_ne (Ne.symm hxb)]
      have hxx := h.blocks x f hx
      refine hxx.mono (PMap.le_refl _) fun hd => ?_
      refine Below.heap_setCell _ _ _ _ (fun heq => ?_)
      simp only at heq
      cases hHx : H[x]? with
      | none => rw [hHx] at hxx; exact hxx
      | some ob =>
        cases ob with
        | dead => exact hd hHx
        | mp es => exact hxb (h.inj x b f e hx he (by simp [live, hHx]) (by simp [live, hb]) heq)
        | cells us ro =>
          cases ro with
          | false => exact hxb (h.inj x b f e hx he (by simp [live, hHx]) (by simp [live, hb]) heq)
          | true =>
            rw [hHx] at hxx
            obtain ⟨_, _, _, _, _, _, _, h9⟩ := hxx
            simp only [if_true] at h9
            omega
  · have tr : ∀ z, live (H.set b (.cells (vs.set i v) false)) z → live H z := by
      intro z hz
      by_cases hzb : z = b
      · subst hzb; simp [live, hb]
      · unfold live at hz ⊢
        rwa [List.getElem?_set_ne (Ne.symm hzb)] at hz
    exact h.inj x y f g hx hy (tr x l1) (tr y l2) hfg
  · have := h5.2 (e.off + i) hlt
    simp only [World.frozen?, h1]
    simp only [Bool.and_eq_false_iff, decide_eq_false_iff_not]
    omega

theorem putL_length {α : Type} : ∀ (vs : List α) (i : Nat) (cs : List α), (putL vs i cs).length = vs.length
  | _, _, [] => rfl
  | vs, i, c :: r => by simp [putL, putL_length (vs.set i c) (i + 1) r]

end Go.Proofs.YtpjkammmoaeheaaDoor.Aw

/- What an operation that writes nothing yields over the abstract heap ('fop'), and that the model yields what this stands for. -/
namespace Go.Proofs.YtpjkammmoaeheaaDoor.Aw
open Go Go.RowKit

def putAll (place : Nat → Option (Nat × Nat)) (cells : List V) : List (Nat × V) → Option (List V)
  | [] => some cells
  | (i, v) :: r =>
    match place i with
    | some (off, sz) => if v.cells.length = sz ∧ off + sz ≤ cells.length then putAll place (putL cells off v.cells) r else none
    | none => none

def parts (e : Operand → Option V) : List (Nat × Operand) → Option (List (Nat × V))
  | [] => some []
  | (i, x) :: r => match e x, parts e r with
    | some v, some l => some ((i, v) :: l)
    | _, _ => none

def rep (n : Nat) (zs : List V) : List V := (List.replicate n zs).flatten

def fieldsOk (P : Program) : List Field → Bool
  | [] => true
  | f :: r => (tsize P f.type).isSome && fieldsOk P r

def buildA (P : Program) (e : Operand → Option V) (t : TypeId) (ps : List (Nat × Operand)) : Option V :=
  match tzero P t, parts e ps with
  | some z, some l =>
    match P.underlying t with
    | some (.struct fs) =>
      if fieldsOk P fs.toList then
        (putAll (fun i => match fs.toList[i]? with
          | some f => some (f.offset, (tsize P f.type).getD 0)
          | none => none) z.cells l).map .agg
      else none
    | some (.array _ el) => match tsize P el with
      | some sz => (putAll (fun i => some (i * sz, sz)) z.cells l).map .agg
      | none => none
    | _ => none
  | _, _ => none

def partA (P : Program) (t : TypeId) (cs : List V) (off : Nat) : Option V :=
  if tok P t then
    if tagg P t then (tsize P t).map fun n => .agg ((cs.drop off).take n)
    else cs[off]?
  else none

def optI (e : Operand → Option V) : Option Operand → Option (Option Int)
  | none => some none
  | some x => match e x with
    | some (.int _ n) => some (some n)
    | _ => none

def sliceStr (s : List UInt8) : Option Int → Option Int → Option V
  | none, none => some (.str s)
  | some l, none => if 0 ≤ l ∧ l ≤ s.length then some (.str (s.drop l.toNat)) else none
  | none, some h => if 0 ≤ h ∧ h ≤ s.length then some (.str (s.take h.toNat)) else none
  | some l, some h => if 0 ≤ l ∧ l ≤ h ∧ h ≤ s.length then some (.str ((s.take h.toNat).drop l.toNat)) else none

def capFit (c : Cap) (sz : Nat) : Prop := match c with | .toEnd z => z = sz | _ => True
instance (c : Cap) (sz : Nat) : Decidable (capFit c sz) := by unfold capFit; cases c <;> infer_instance
def cutCap (c : Cap) (l : Nat) : Cap := match c with | .nil => .nil | .ex k => .ex (k - l) | .toEnd z => .toEnd z

def sliceSl (sz : Nat) (b i n : Nat) (c : Cap) (lo hi mx : Option Int) : Option V :=
  let l := lo.getD 0
  match mx with
  | some m =>
    match hi with
    | none => none
    | some h =>
      if 0 ≤ l ∧ l ≤ h ∧ h ≤ m ∧ m ≤ n then
        some (.sl b (i + l.toNat * sz) (h - l).toNat (match c with | .nil => .nil | _ => .ex (m - l).toNat))
      else none
  | none =>
    let h := hi.getD n
    if 0 ≤ l ∧ l ≤ h ∧ h ≤ n then
      if capFit c sz then some (.sl b (i + l.toNat * sz) (h - l).toNat (cutCap c l.toNat)) else none
    else none

def sliceA (P : Program) (t : TypeId) (x : V) (lo hi mx : Option Int) : Option V :=
  match P.underlying t, x with
  | some .string, .str s => if mx.isSome then none else sliceStr s lo hi
  | some (.slice el), .sl b i n c => match tsize P el with
    | some sz => if 0 < sz then sliceSl sz b i n c lo hi mx else none
    | none => none
  | some (.array n el), .ptr b i => match tsize P el with
    | some sz => if 0 < sz then sliceSl sz b i n (.ex n) lo hi mx else none
    | none => none
  | _, _ => none

def idxA (P : Program) (t : TypeId) (x : V) (k : Int) : Option V :=
  match P.underlying t, x with
  | some (.array n el), .ptr b i => match tsize P el with
    | some sz => if 0 ≤ k ∧ k < n then some (.ptr b (i + k.toNat * sz)) else none
    | none => none
  | some (.slice el), .sl b i n _ => match tsize P el with
    | some sz => if 0 ≤ k ∧ k < n then some (.ptr b (i + k.toNat * sz)) else none
    | none => none
  | _, _ => none

def indexA (P : Program) (t : TypeId) (x : V) (k : Int) : Option V :=
  match P.underlying t, x with
  | some .string, .str s => if 0 ≤ k then (s[k.toNat]?).map fun c => .int .u8 c.toNat else none
  | some (.array n el), .agg cs => match tsize P el with
    | some sz => if 0 ≤ k ∧ k < n then partA P el cs (k.toNat * sz) else none
    | none => none
  | _, _ => none

def byteV (c : UInt8) : V := .int .u8 c.toNat

def unbytes : List V → Option (List UInt8)
  | [] => some []
  | .int .u8 n :: r => (unbytes r).map (UInt8.ofNat n.toNat :: ·)
  | _ => none

def u8T (P : Program) (t : TypeId) : Bool := match P.underlying t with | some (.int .u8) => true | _ => false

def convA (P : Program) (H : AH) (nb : Nat) (s d : TypeId) (x : V) : Option (V × Option Blk) :=
  match P.underlying s, P.underlying d, x with
  | some _, some (.int k), .int _ n => some (.int k (k.wrap n), none)
  | some _, some .string, .str l => some (.str l, none)
  | some .string, some (.slice el), .str l => if u8T P el then some (.sl nb 0 l.length (.toEnd 1), some (.cells (l.map byteV) false)) else none
  | some (.slice el), some .string, .sl b i n _ => if u8T P el then
      match H.cellsN b i n with
      | some l => (unbytes l).map fun s => (.str s, none)
      | none => none
    else none
  | _, _, _ => none

def eqKey : V → V → Option Bool
  | .int k a, .int k' b => if k = k' then some (a == b) else none
  | .str a, .str b => some (a == b)
  | .bool a, .bool b => some (a == b)
  | _, _ => none

/-- The place and the value of a key; nothing: a key of another kind. -/
def findA (k : V) : List (V × V) → Nat → Option (Option (Nat × V))
  | [], _ => some none
  | (x, v) :: r, i => match eqKey k x with
    | some true => some (some (i, v))
    | some false => findA k r (i + 1)
    | none => none

def lookupA (P : Program) (H : AH) (t : TypeId) (m k : V) (ok : Bool) : Option V :=
  match P.underlying t, m with
  | some (.map kt el), .map b =>
    match H[b]? with
    | some (.mp es) =>
      if kindOk P kt k then
        match findA k es 0, tzero P el with
        | some (some (_, v)), _ => some (if ok then .tup [v, .bool true] else v)
        | some none, some z => some (if ok then .tup [z, .bool false] else z)
        | _, _ => none
      else none
    | _ => none
  | _, _ => none

def lenA (P : Program) (H : AH) (t : TypeId) (x : V) : Option V :=
  match P.underlying t, x with
  | some .string, .str s => some (.int .i64 s.length)
  | some (.array n _), _ => some (.int .i64 n)
  | some (.slice _), .sl _ _ n _ => some (.int .i64 n)
  | some (.map _ _), .map b => match H[b]? with
    | some (.mp es) => some (.int .i64 es.length)
    | _ => none
  | some (.map _ _), .nilm => some (.int .i64 (0 : Nat))
  | _, _ => none

def foldMin (k : IntKind) (x : Int) : List V → Option V
  | [] => some (.int k x)
  | .int k' y :: r => if k = k' then foldMin k (if y < x then y else x) r else none
  | _ => none
def foldMax (k : IntKind) (x : Int) : List V → Option V
  | [] => some (.int k x)
  | .int k' y :: r => if k = k' then foldMax k (if y > x then y else x) r else none
  | _ => none

def fop (P : Program) (e : Operand → Option V) (H : AH) (nb : Nat) : Op → Option (V × Option Blk)
  | .move x => (e x).map (·, none)
  | .assign x => (e x).map (·, none)
  | .pick c a b => match e c with
    | some (.bool t) => if t then (e a).map (·, none) else (e b).map (·, none)
    | _ => none
  | .alloc t => match tzero P t with
    | some z => if z.cells.all V.one then some (.ptr nb 0, some (.cells z.cells false)) else none
    | none => none
  | .box _ x => match e x with
    | some v => if v.cells.all V.one then some (.ptr nb 0, some (.cells v.cells false)) else none
    | none => none
  | .build t ps => (buildA P e t ps.toList).map (·, none)
  | .buildSlice t len ps =>
    match P.underlying t, parts e ps.toList with
    | some (.slice el), some l => match tsize P el, tzero P el with
      | some sz, some z => if z.cells.length = sz ∧ 0 < sz ∧ len * sz ≤ 16777216 then
          match putAll (fun i => some (i * sz, sz)) (rep len z.cells) l with
          | some cs => if cs.all V.one then some (.sl nb 0 len (.ex len), some (.cells cs false)) else none
          | none => none
        else none
      | _, _ => none
    | _, _ => none
  | .load t a => match e a with
    | some (.ptr b i) => if tok P t then
        if tagg P t then match tsize P t with
          | some n => (H.cellsN b i n).map fun l => (.agg l, none)
          | none => none
        else (H.cell b i).map (·, none)
      else none
    | _ => none
  | .nilCheck x => match e x with
    | some (.ptr b i) => some (.ptr b i, none)
    | some (.fn f a c) => some (.fn f a c, none)
    | _ => none
  | .binOp op t x y _ => match e x, e y with
    | some a, some b => (binA P op t a b).map (·, none)
    | _, _ => none
  | .unOp op _ x => match e x with
    | some a => (unA op a).map (·, none)
    | none => none
  | .convert s d x => match e x with
    | some a => convA P H nb s d a
    | none => none
  | .makeInterface t x => match e x, P.underlying t with
    | some _, some (.interface _) => none
    | some v, some _ => some (.iface t v, none)
    | _, _ => none
  | .makeFunc fn first cap => match fn, evL e first.toList, evL e cap.toList with
    | .func f, some a, some c => some (.fn f a c, none)
    | _, _, _ => none
  | .makeMap _ none => some (.map nb, some (.mp []))
  | .makeMap t (some x) => match P.underlying t, e x with
    | some (.map _ _), some (.int _ _) => some (.map nb, some (.mp []))
    | _, _ => none
  | .makeSlice t l c =>
    match P.underlying t, e l, e c with
    | some (.slice el), some (.int .i64 n), some (.int .i64 m) => match tsize P el, tzero P el with
      | some sz, some z => if z.cells.length = sz ∧ 0 < sz ∧ 0 ≤ n ∧ n ≤ m ∧ m * (tbytes P el : Int) ≤ 140737488355328 ∧ m ≤ 140737488355328 ∧ z.cells.all V.one then
          some (.sl nb 0 n.toNat (.ex m.toNat), some (.cells (rep m.toNat z.cells) false))
        else none
      | _, _ => none
    | _, _, _ => none
  | .slice t x lo hi mx => match e x, optI e lo, optI e hi, optI e mx with
    | some v, some l, some h, some m => (sliceA P t v l h m).map (·, none)
    | _, _, _, _ => none
  | .fieldAddr s x f => match P.underlying s, e x with
    | some (.struct fs), some (.ptr b i) => match fs[f]? with
      | some fl => match tsize P fl.type with
        | some (_ + 1) => some (.ptr b (i + fl.offset), none)
        | _ => none
      | none => none
    | _, _ => none
  | .field s x f => match P.underlying s, e x with
    | some (.struct fs), some (.agg cs) => match fs[f]? with
      | some fl => (partA P fl.type cs fl.offset).map (·, none)
      | none => none
    | _, _ => none
  | .indexAddr t x ix => match e x, e ix with
    | some v, some (.int _ k) => (idxA P t v k).map (·, none)
    | _, _ => none
  | .index t x ix => match e x, e ix with
    | some v, some (.int _ k) => (indexA P t v k).map (·, none)
    | _, _ => none
  | .lookup t m k ok => match e m, e k with
    | some mv, some kv => (lookupA P H t mv kv ok).map (·, none)
    | _, _ => none
  | .extract x k => match e x with
    | some (.tup vs) => (vs[k]?).map (·, none)
    | _ => none
  | .call c => match c.callee with
    | .builtin .len => match c.argTypes[0]?, evL e c.args.toList with
      | some t, some [x] => (lenA P H t x).map (·, none)
      | _, _ => none
    | .builtin .min => match evL e c.args.toList with
      | some (.int k x :: r) => (foldMin k x r).map (·, none)
      | _ => none
    | .builtin .max => match evL e c.args.toList with
      | some (.int k x :: r) => (foldMax k x r).map (·, none)
      | _ => none
    | _ => none
  | _ => none

/-- What the model owes for an operation that writes nothing. -/
def Owes (P : Program) (w0 : World) (p : PMap) (T : AH) (w : World) (ρ : Operand → Value) (o : Oper) (nb : Nat) (v : V) : Prop :=
  ∃ r w' p', (execOp ρ o).run P w = .ok (.value r) w' ∧ p.le p' ∧ (∀ x, x ≠ nb → p' x = p x) ∧ Rn p' v r ∧ Inv w0 p' T w'

theorem Owes.same {P : Program} {w0 w : World} {p : PMap} {T : AH} {ρ : Operand → Value} {o : Oper} {nb : Nat} {v : V} (hT : Inv w0 p T w) {r : Value}
    (h : (execOp ρ o).run P w = .ok (.value r) w) (hr : Rn p v r) : Owes P w0 p T w ρ o nb v :=
  ⟨r, w, p, h, PMap.le_refl p, fun _ _ => rfl, hr, hT⟩

theorem vOf1_rn (p : PMap) {r : Value} {v : V} (h : vOf1 r = some v) : Rn p v r ∧ v.one = true := by
  unfold vOf1 at h
  split at h <;> first | cases h; done | (injection h with h; subst h; refine ⟨?_, rfl⟩; simp [Rn])

theorem vOfL_rn (p : PMap) : ∀ {rs : List Value} {vs : List V}, vOfL rs = some vs → RnL p vs rs ∧ ∀ v ∈ vs, v.one = true
  | [], _, h => by simp [vOfL] at h; subst h; simp [RnL]
  | r :: rs, _, h => by
    simp only [vOfL] at h
    split at h
    · rename_i a l h1 h2
      injection h with h
      subst h
      obtain ⟨h3, h4⟩ := vOf1_rn p h1
      obtain ⟨h5, h6⟩ := vOfL_rn p h2
      simp only [RnL]
      refine ⟨⟨r, rs, rfl, h3, h5⟩, ?_⟩
      intro v hv
      rcases List.mem_cons.1 hv with rfl | hv
      · exact h4
      · exact h6 v hv
    · cases h

theorem vOf_rn (p : PMap) {r : Value} {v : V} (h : vOf r = some v) : Rn p v r := by
  unfold vOf at h
  split at h
  · rename_i cs
    cases hl : vOfL cs.toList with
    | none => simp [hl] at h
    | some l =>
      simp [hl] at h
      subst h
      simp only [Rn]
      exact ⟨cs.toList, by simp, (vOfL_rn p hl).1⟩
  · rename_i cs
    cases hl : vOfL cs.toList with
    | none => simp [hl] at h
    | some l =>
      simp [hl] at h
      subst h
      simp only [Rn]
      exact ⟨cs.toList, by simp, (vOfL_rn p hl).1⟩
  · exact (vOf1_rn p h).1

theorem vOf_cells (p : PMap) {r : Value} {v : V} (h : vOf r = some v) (hn : ∀ vs, r ≠ .tuple vs) : RnL p v.cells r.cells.toList ∧ ∀ x ∈ v.cells, x.one = true := by
  unfold vOf at h
  split at h
  · rename_i cs
    cases hl : vOfL cs.toList with
    | none => simp [hl] at h
    | some l =>
      simp [hl] at h
      subst h
      exact vOfL_rn p hl
  · rename_i cs
    exact absurd rfl (hn cs)
  · obtain ⟨h1, h2⟩ := vOf1_rn p h
    have hc : v.cells = [v] := by cases v <;> first | rfl | (simp [V.one] at h2)
    rw [hc]
    have h3 := h1.one h2
    refine ⟨?_, by intro x hx; simp at hx; subst hx; exact h2⟩
    have : r.cells = #[r] := by cases r <;> first | rfl | (simp [Value.oneCell'] at h3)
    rw [this]
    simp only [RnL]
    exact ⟨r, [], rfl, h1, rfl⟩

theorem evL_rn {p : PMap} {e : Operand → Option V} {ρ : Operand → Value} (he : ∀ x v, e x = some v → Rn p v (ρ x)) :
    ∀ {xs : List Operand} {vs : List V}, evL e xs = some vs → RnL p vs (xs.map ρ)
  | [], _, h => by simp [evL] at h; subst h; simp [RnL]
  | x :: xs, _, h => by
    simp only [evL] at h
    split at h
    · rename_i a l h1 h2
      injection h with h
      subst h
      simp only [RnL, List.map_cons]
      exact ⟨_, _, rfl, he x a h1, evL_rn he h2⟩
    · cases h

end Go.Proofs.YtpjkammmoaeheaaDoor.Aw

/- The model yields what 'fop' says: operation by operation. -/
set_option linter.unusedSimpArgs false
set_option linter.unusedVariables false
namespace Go.Proofs.YtpjkammmoaeheaaDoor.Aw
open Go Go.RowKit

section
variable {P : Program} {w0 w : World} {p : PMap} {H T : AH} {e : Operand → Option V} {ρ : Operand → Value} {o : Oper} {nb : Nat} {v : V} {ob : Option Blk}

theorem tsize_run {t : TypeId} {n : Nat} (h : tsize P t = some n) (w : World) : (sizeOf t).run P w = .ok n w := by
  unfold tsize at h
  cases hi : P.info? t with
  | none => simp [hi] at h
  | some i => simp [hi] at h; subst h; simp [sizeOf, typeInfo, hi]

theorem tzero_run {t : TypeId} {z : V} (h : tzero P t = some z) : ∃ r, (∀ w : World, (zeroValue t).run P w = .ok r w) ∧ vOf r = some z := by
  unfold tzero at h
  cases hi : P.info? t with
  | none => simp [hi] at h
  | some i =>
    cases hz : i.zero with
    | none => simp [hi, hz] at h
    | some r =>
      simp [hi, hz] at h
      exact ⟨r, fun w => by simp [zeroValue, typeInfo, hi, hz], h⟩

theorem und_run {t : TypeId} {d : TypeDesc} (h : P.underlying t = some d) (w : World) : (underlying t).run P w = .ok d w := run_underlying h w

theorem tagg_run {t : TypeId} (h : tok P t = true) (w : World) : (isAgg t).run P w = .ok (tagg P t) w := by
  unfold tok at h
  cases hu : P.underlying t with
  | none => simp [hu] at h
  | some d => cases d <;> simp [isAgg, und_run hu, tagg, hu]

theorem vOf_zero {r : Value} {z : V} (h : vOf r = some z) (ho : z.cells.all V.one = true) : RnL p z.cells r.cells.toList := by
  refine (vOf_cells p h ?_).1
  rintro vs rfl
  simp only [vOf, Option.map_eq_some_iff] at h
  obtain ⟨l, _, rfl⟩ := h
  simp [V.cells, V.one] at ho

theorem CellsR.of_RnL {vs : List V} {rs : List Value} (h : RnL p vs rs) (ho : ∀ v ∈ vs, v.one = true) : CellsR p vs (List.toArray rs) 0 := by
  intro i v hv
  obtain ⟨r, hr, hn⟩ := h.get i v hv
  exact ⟨ho v (List.mem_of_getElem? hv), r, by simpa using hr, hn⟩

theorem noFz (n : Nat) : ∀ i, i < n → ¬ ((0 : Nat) ≤ i ∧ i < (0 : Nat)) := fun i _ h => by omega

/-- A new row of cells. -/
theorem Owes.row (hT : Inv w0 p T w) (hn : p nb = none) {vs : List V} {rs : List Value} (hr : RnL p vs rs) (ho : ∀ v ∈ vs, v.one = true) (hb : T[nb]? = some (.cells vs false)) {ρ : Operand → Value} {o : Oper} {t : TypeId} {u : V} {r : Value}
    (hrun : (execOp ρ o).run P w = .ok (.value r) (w.alloc (.cells (List.toArray rs) t))) (hu : Rn (p.put nb ⟨w.heap.size, 0, rs.length⟩) u r) : Owes P w0 p T w ρ o nb u := by
  refine ⟨r, _, p.put nb ⟨w.heap.size, 0, rs.length⟩, hrun, PMap.le_put _ hn, fun x hx => PMap.put_ne _ _ hx, hu, ?_⟩
  have := hT.alloc hn hb (cs := List.toArray rs) (t := t) (fz := (0, 0)) (by simp [hr.length]) (.of_RnL hr ho) (noFz _)
  simpa using this

theorem sound_move (hT : Inv w0 p T w) (he : ∀ x v, e x = some v → Rn p v (ρ x)) {x : Operand} (ho : o.op = .move x ∨ o.op = .assign x) (hf : e x = some v) : Owes P w0 p T w ρ o nb v :=
  Owes.same hT (r := ρ x) (by rcases ho with ho | ho <;> simp [execOp, ho]) (he x v hf)

theorem sound_pick (hT : Inv w0 p T w) (he : ∀ x v, e x = some v → Rn p v (ρ x)) {c a b : Operand} (ho : o.op = .pick c a b) {t : Bool} (hc : e c = some (.bool t)) (hf : (if t then e a else e b) = some v) : Owes P w0 p T w ρ o nb v := by
  have h1 := he c _ hc
  simp only [Rn] at h1
  refine Owes.same hT (r := if t then ρ a else ρ b) (by simp [execOp, ho, h1, asBool]) ?_
  cases t
  · exact he b v hf
  · exact he a v hf

theorem sound_alloc (hT : Inv w0 p T w) (hn : p nb = none) {t : TypeId} (ho : o.op = .alloc t) {z : V} (hz : tzero P t = some z) (hone : z.cells.all V.one = true) (hb : T[nb]? = some (.cells z.cells false)) : Owes P w0 p T w ρ o nb (.ptr nb 0) := by
  obtain ⟨r, hr, hv⟩ := tzero_run hz
  refine Owes.row hT hn (vOf_zero hv hone) (by simpa using hone) hb (t := t) (r := .pointer (some ⟨w.heap.size, 0, none⟩)) ?_ ?_
  · simp [execOp, ho, Instr.alloc, hr, newVar, newRow]
  · simp only [Rn]; exact ⟨_, PMap.put_same _ _ _, rfl⟩

theorem sound_box (hT : Inv w0 p T w) (he : ∀ x v, e x = some v → Rn p v (ρ x)) (hn : p nb = none) {t : TypeId} {x : Operand} (ho : o.op = .box t x) {z : V} (hz : e x = some z) (hone : z.cells.all V.one = true) (hb : T[nb]? = some (.cells z.cells false)) : Owes P w0 p T w ρ o nb (.ptr nb 0) := by
  obtain ⟨rs, h1, h2⟩ := (he x z hz).cells (by simpa using hone)
  refine Owes.row hT hn h2 (by simpa using hone) hb (t := t) (r := .pointer (some ⟨w.heap.size, 0, none⟩)) ?_ ?_
  · simp [execOp, ho, Instr.box, newVar, newRow, h1]
  · simp only [Rn]; exact ⟨_, PMap.put_same _ _ _, rfl⟩

theorem add_addr (b o n : Nat) : Addr.add ⟨b, o, none⟩ n = ⟨b, o + n, none⟩ := Addr.add_lit b o n

theorem run_loadCellsFrom' (a : Addr) (w : World) : ∀ (n i : Nat) (acc : Array Value) (rs : List Value), rs.length = n → (∀ j r, rs[j]? = some r → w.cell? (a.add (i + j)) = some r) →
    (loadCellsFrom a i n acc).run P w = .ok (acc ++ List.toArray rs) w
  | 0, _, acc, rs, hl, _ => by
    have : rs = [] := List.eq_nil_of_length_eq_zero hl
    subst this
    simp [loadCellsFrom]
  | n + 1, i, acc, rs, hl, h => by
    cases rs with
    | nil => simp at hl
    | cons r rs =>
      have h0 := h 0 r (by simp)
      have ih := run_loadCellsFrom' a w n (i + 1) (acc.push r) rs (by simpa using hl) (fun j x hx => by have := h (j + 1) x (by simpa using hx); rwa [show i + 1 + j = i + (j + 1) by omega])
      simp only [Nat.add_zero] at h0
      simp [loadCellsFrom, h0, ih]

theorem run_loadCells' (a : Addr) (w : World) (n : Nat) (rs : List Value) (hl : rs.length = n) (h : ∀ j r, rs[j]? = some r → w.cell? (a.add j) = some r) : (loadCells a n).run P w = .ok (List.toArray rs) w := by
  have := run_loadCellsFrom' (P := P) a w n 0 #[] rs hl (by simpa using h)
  simpa [loadCells] using this

theorem sound_load1 (hI : Inv w0 p H w) (hT : Inv w0 p T w) (he : ∀ x v, e x = some v → Rn p v (ρ x)) {t : TypeId} {a : Operand} (ho : o.op = .load t a) {b i : Nat} (ha : e a = some (.ptr b i)) (ht : tok P t = true) (hg : tagg P t = false) (hc : H.cell b i = some v) : Owes P w0 p T w ρ o nb v := by
  have h1 := he a _ ha
  simp only [Rn] at h1
  obtain ⟨en, hp, hr⟩ := h1
  obtain ⟨_, r, hcell, hn⟩ := hI.cell hc hp
  refine Owes.same hT (r := r) ?_ hn
  have h2 := tagg_run ht w
  rw [hg] at h2
  simp [execOp, ho, Instr.loadAt, Instr.sureAddr, hr, loadVar, h2, hcell]

theorem sound_loadN (hI : Inv w0 p H w) (hT : Inv w0 p T w) (he : ∀ x v, e x = some v → Rn p v (ρ x)) {t : TypeId} {a : Operand} (ho : o.op = .load t a) {b i n : Nat} (ha : e a = some (.ptr b i)) (ht : tok P t = true) (hg : tagg P t = true) (hs : tsize P t = some n) {l : List V} (hc : H.cellsN b i n = some l) : Owes P w0 p T w ρ o nb (.agg l) := by
  have h1 := he a _ ha
  simp only [Rn] at h1
  obtain ⟨en, hp, hr⟩ := h1
  obtain ⟨hl, _, rs, hrl, hrn, hcell⟩ := hI.cellsN hc hp
  refine Owes.same hT (r := .agg (List.toArray rs)) ?_ (by simp only [Rn]; exact ⟨rs, rfl, hrn⟩)
  have h2 := tagg_run ht w
  rw [hg] at h2
  have h3 := run_loadCells' (P := P) ⟨en.blk, en.off + i, none⟩ w n rs hrl (fun j r hj => by rw [add_addr]; exact hcell j r hj)
  simp [execOp, ho, Instr.loadAt, Instr.sureAddr, hr, loadVar, h2, tsize_run hs, h3]

theorem sound_nilCheck (hT : Inv w0 p T w) (he : ∀ x v, e x = some v → Rn p v (ρ x)) {x : Operand} (ho : o.op = .nilCheck x) (hx : e x = some v) (hk : (∃ b i, v = .ptr b i) ∨ ∃ f a c, v = .fn f a c) : Owes P w0 p T w ρ o nb v := by
  have h1 := he x _ hx
  refine Owes.same hT (r := ρ x) ?_ h1
  rcases hk with ⟨b, i, rfl⟩ | ⟨f, a, c, rfl⟩
  · simp only [Rn] at h1
    obtain ⟨en, hp, hr⟩ := h1
    simp [execOp, ho, hr]
  · simp only [Rn] at h1
    obtain ⟨ra, rc, hr, _⟩ := h1
    simp [execOp, ho, hr]

theorem toList_mk (l : List UInt8) : (⟨⟨l⟩⟩ : ByteArray).toList = l := Lib.toList_data _

theorem intA_run {op : BinOp} {t : TypeId} {k : IntKind} {a b : Int} {v : V} (hs : op ≠ .shl) (hs' : op ≠ .shr) (h : intA op k a b = some v) (p : PMap) : ∃ r, (binOp op t (.int k a) (.int k b)).run P w = .ok r w ∧ Rn p v r := by
  cases op
  case shl => exact absurd rfl hs
  case shr => exact absurd rfl hs'
  case quo =>
    simp only [intA] at h
    split at h
    · cases h
    · rename_i hb
      injection h with h; subst h
      exact ⟨.int k _, by simp [binOp_quo, Op.intDiv, hb]; rfl, by simp [Rn]⟩
  case rem =>
    simp only [intA] at h
    split at h
    · cases h
    · rename_i hb
      injection h with h; subst h
      exact ⟨.int k _, by simp [binOp_rem, Op.intDiv, hb]; rfl, by simp [Rn]⟩
  all_goals simp only [intA] at h
  all_goals first | cases h; done | (injection h with h; subst h)
  all_goals first
    | exact ⟨_, by first | rw [binOp_add]; rfl | rw [binOp_sub]; rfl | rw [binOp_mul]; rfl | rw [binOp_eql]; rfl | rw [binOp_neq]; rfl | rw [binOp_lss]; rfl | rw [binOp_leq]; rfl | rw [binOp_gtr]; rfl | rw [binOp_geq]; rfl | rw [binOp_and]; rfl | rw [binOp_or]; rfl | rw [binOp_xor]; rfl, by simp [Rn]⟩

theorem shA_run {op : BinOp} {t : TypeId} {k k' : IntKind} {a b : Int} {v : V} (hs : op = .shl ∨ op = .shr) (h : shA op k a b = some v) (p : PMap) : ∃ r, (binOp op t (.int k a) (.int k' b)).run P w = .ok r w ∧ Rn p v r := by
  unfold shA at h
  split at h
  · cases h
  · rename_i hb
    rcases hs with rfl | rfl <;> simp only [] at h <;> injection h with h <;> subst h
    · exact ⟨.int k _, by rw [binOp_shl]; simp [Op.shift, hb]; rfl, by simp [Rn]⟩
    · exact ⟨.int k _, by rw [binOp_shr]; simp [Op.shift, hb]; rfl, by simp [Rn]⟩

theorem strA_run {op : BinOp} {t : TypeId} {a b : List UInt8} {v : V} (h : strA op a b = some v) (p : PMap) : ∃ r, (binOp op t (.string ⟨⟨a⟩⟩) (.string ⟨⟨b⟩⟩)).run P w = .ok r w ∧ Rn p v r := by
  have hb : ∀ op, binOp op t (.string ⟨⟨a⟩⟩) (.string ⟨⟨b⟩⟩) = Op.stringOp op ⟨⟨a⟩⟩ ⟨⟨b⟩⟩ := fun op => by cases op <;> rfl
  rw [hb]
  have ha : (⟨⟨a⟩⟩ : ByteArray).size = a.length := rfl
  have hbs : (⟨⟨b⟩⟩ : ByteArray).size = b.length := rfl
  cases op <;> simp only [strA] at h
  case add =>
    split at h
    · rename_i hl
      injection h with h; subst h
      refine ⟨.string ⟨⟨a ++ b⟩⟩, ?_, by simp [Rn]⟩
      have : ¬ ((((⟨⟨a⟩⟩ : ByteArray).size + (⟨⟨b⟩⟩ : ByteArray).size : Nat) : Int) > IntKind.i64.max) := by
        rw [ha, hbs, IntKind.max_i64]; omega
      simp only [Op.stringOp, this, if_false]
      have hc : (⟨⟨a⟩⟩ : ByteArray) ++ ⟨⟨b⟩⟩ = ⟨⟨a ++ b⟩⟩ := by
        apply ByteArray.ext
        rw [ByteArray.data_append]
        simp
      rw [hc]; rfl
    · cases h
  all_goals first | cases h; done | (injection h with h; subst h)
  all_goals exact ⟨.bool _, by simp only [Op.stringOp, toList_mk]; rfl, by simp [Rn]⟩

theorem plain_agg {t : TypeId} (h : plainKind P t = true) (w : World) : (isAgg t).run P w = .ok false w := by
  unfold plainKind at h
  split at h <;> first | (rename_i hu; simp [isAgg, und_run hu]; done) | cases h

theorem part_plain {t : TypeId} (h : plainKind P t = true) {cs : Array Value} {off : Nat} {r : Value} (hc : cs[off]? = some r) : (part t cs off).run P w = .ok r w := by
  simp [part, plain_agg h, hc]

theorem eqFields_flat (d : Nat) (w : World) : ∀ (fs : List Field) (k : Nat) (us vs : List V) (xs ys : Array Value) (b : Bool), flatFields P k fs = true → us.length = fs.length → vs.length = fs.length →
    (∀ i v, us[i]? = some v → ∃ r, xs[k + i]? = some r ∧ Rn p v r) → (∀ i v, vs[i]? = some v → ∃ r, ys[k + i]? = some r ∧ Rn p v r) → kindsOk P fs us = true →
    eqCells us vs = some b → (Op.eqFields (d + 1) xs ys fs).run P w = .ok b w
  | [], _, us, vs, _, _, b, _, hu, hv, _, _, _, he => by
    have : us = [] := List.eq_nil_of_length_eq_zero (by simpa using hu)
    subst this
    have : vs = [] := List.eq_nil_of_length_eq_zero (by simpa using hv)
    subst this
    simp [eqCells] at he
    subst he
    simp [Op.eqFields]
  | f :: fs, k, u :: us, v :: vs, xs, ys, b, hf, hu, hv, hx, hy, hk, he => by
    simp only [flatFields, Bool.and_eq_true, bne_iff_ne, beq_iff_eq] at hf
    obtain ⟨⟨⟨h1, h2⟩, h3⟩, h4⟩ := hf
    obtain ⟨x, hx0, hxr⟩ := hx 0 u (by simp)
    obtain ⟨y, hy0, hyr⟩ := hy 0 v (by simp)
    have ih := eqFields_flat d w fs (k + 1) us vs xs ys b h4 (by simpa using hu) (by simpa using hv)
      (fun i z hz => by have := hx (i + 1) z (by simpa using hz); rwa [show k + 1 + i = k + (i + 1) by omega])
      (fun i z hz => by have := hy (i + 1) z (by simpa using hz); rwa [show k + 1 + i = k + (i + 1) by omega])
    simp only [kindsOk, Bool.and_eq_true] at hk
    simp only [Nat.add_zero] at hx0 hy0
    simp only [Op.eqFields, h3, ne_eq, not_false_eq_true, if_true, Sem.run_bind, h2, part_plain h1 hx0, part_plain h1 hy0, Result.andThen_ok]
    obtain ⟨hk1, hk2⟩ := hk
    unfold kindOk at hk1
    split at hk1
    · rename_i kd kk n hu1
      cases v <;> simp only [eqCells] at he <;> try cases he
      split at he
      · rename_i hkk
        subst hkk
        simp only [Rn] at hxr hyr
        subst hxr hyr
        rw [run_equalIn_int w d _ _ _ _ _ hu1]
        simp only [Result.andThen_ok]
        split at he
        · rename_i hc
          simp only [hc, Bool.not_true, Bool.false_eq_true, if_false]
          exact ih hk2 he
        · rename_i hc
          simp only [hc, Bool.not_false, if_true]
          injection he with he
          subst he
          simp
      · cases he
    · rename_i s hu1
      cases v <;> simp only [eqCells] at he <;> try cases he
      simp only [Rn] at hxr hyr
      subst hxr hyr
      rw [run_equalIn_string w d _ _ _ hu1]
      simp only [Result.andThen_ok, toList_mk]
      split at he
      · rename_i hc
        simp only [hc, Bool.not_true, Bool.false_eq_true, if_false]
        exact ih hk2 he
      · rename_i hc
        simp only [hc, Bool.not_false, if_true]
        injection he with he
        subst he
        simp
    · rename_i s hu1
      cases v <;> simp only [eqCells] at he <;> try cases he
      simp only [Rn] at hxr hyr
      subst hxr hyr
      rw [run_equalIn_bool' w d _ _ _ hu1]
      simp only [Result.andThen_ok]
      split at he
      · rename_i hc
        simp only [hc, Bool.not_true, Bool.false_eq_true, if_false]
        exact ih hk2 he
      · rename_i hc
        simp only [hc, Bool.not_false, if_true]
        injection he with he
        subst he
        simp
    · cases hk1
  | f :: fs, k, [], vs, xs, ys, b, hf, hu, hv, hx, hy, hk, he => by simp at hu
  | f :: fs, k, u :: us, [], xs, ys, b, hf, hu, hv, hx, hy, hk, he => by simp at hv

theorem agg_get {us : List V} {rs : List Value} (h : RnL p us rs) : ∀ i v, us[i]? = some v → ∃ r, (List.toArray rs)[0 + i]? = some r ∧ Rn p v r := fun i v hv => by
  obtain ⟨r, h1, h2⟩ := h.get i v hv
  exact ⟨r, by simpa using h1, h2⟩

theorem slR_some {en : Ent} {i n : Nat} {c : Cap} {r : Value} (h : slR en i n c r) : ∃ a n' c', r = .slice (some a) n' c' := by
  cases c with
  | nil => simp only [slR] at h
  | ex c => simp only [slR] at h; rcases h.2 with h | ⟨_, a, h⟩ <;> exact ⟨_, _, _, h⟩
  | toEnd sz => simp only [slR] at h; rcases h.2.2 with h | ⟨_, _, a, h⟩ <;> exact ⟨_, _, _, h⟩

theorem slR_isNil {en : Ent} {i n : Nat} {c : Cap} {r : Value} (h : slR en i n c r) : c.isNil = false := by
  cases c with
  | nil => simp only [slR] at h
  | ex c => rfl
  | toEnd sz => rfl

theorem eqv {t : TypeId} {rx ry : Value} {b : Bool} (h : ∀ (d : Nat) (w : World), (Op.equalIn (d + 1) t rx ry).run P w = .ok b w) (w : World) : (Op.equal t rx ry).run P w = .ok b w := h 9999 w

theorem binA_run {op : BinOp} {t : TypeId} {x y : V} {v : V} (h : binA P op t x y = some v) {rx ry : Value} (hx : Rn p x rx) (hy : Rn p y ry) (X Y : Operand) :
    ∃ r, ((do eqGuard op t X Y rx ry; binOp op t rx ry : Sem Value)).run P w = .ok r w ∧ Rn p v r := by
  unfold binA at h
  split at h
  · rename_i k a k' b
    simp only [Rn] at hx hy
    subst hx hy
    rw [eqGuard_at_int]
    simp only [Sem.run_bind, Sem.run_pure, Result.andThen_ok]
    split at h
    · exact shA_run (.inl rfl) h p
    · exact shA_run (.inr rfl) h p
    · rename_i h1 h2
      split at h
      · rename_i hk
        subst hk
        exact intA_run h1 h2 h p
      · cases h
  · rename_i a b
    simp only [Rn] at hx hy
    subst hx hy
    rw [eqGuard_at_string]
    simp only [Sem.run_bind, Sem.run_pure, Result.andThen_ok]
    exact strA_run h p
  · rename_i a b
    simp only [Rn] at hx hy
    subst hx hy
    rw [eqGuard_at_bool]
    simp only [Sem.run_bind, Sem.run_pure, Result.andThen_ok]
    split at h
    · rename_i hu
      injection h with h
      subst h
      exact ⟨.bool _, run_eql_bool w t a b hu, by simp [Rn]⟩
    · rename_i hu
      injection h with h
      subst h
      exact ⟨.bool _, run_neq_bool w t a b hu, by simp [Rn]⟩
    · cases h
  · rename_i xs ys
    simp only [Rn] at hx hy
    obtain ⟨rx, rfl, hx⟩ := hx
    obtain ⟨ry, rfl, hy⟩ := hy
    cases hfe : flatEq P t xs with
    | none => simp [hfe] at h
    | some n =>
      simp only [hfe] at h
      split at h
      · rename_i hl
        unfold flatEq at hfe
        split at hfe
        · rename_i fs hu
          split at hfe
          · rename_i hc
            injection hfe with hfe
            simp only [Bool.and_eq_true, Bool.not_eq_true'] at hc
            obtain ⟨⟨⟨hc1, hc2⟩, hc3⟩, hc4⟩ := hc
            have hfo : P.fieldsOf t = fs := by simp [Program.fieldsOf, hu]
            have hrun : ∀ b, eqCells xs ys = some b → (Op.equalIn 10000 t (.agg (List.toArray rx)) (.agg (List.toArray ry))).run P w = .ok b w := by
              intro b hb
              rw [run_equalIn_struct w 9999 t _ _ (by rw [hfo]; exact hu) hc2, hfo]
              refine eqFields_flat 9998 w fs.toList 0 xs ys _ _ b hc1 (by simp; omega) (by simp; omega) (agg_get hx) (agg_get hy) hc4 hb
            simp only [Sem.run_bind, run_eqGuard_agg w op t X Y _ _ hc3, Result.andThen_ok]
            split at h
            · rename_i b hb
              injection h with h
              subst h
              exact ⟨.bool b, by rw [run_eql_struct, hrun b hb]; rfl, by simp [Rn]⟩
            · rename_i b hb
              injection h with h
              subst h
              exact ⟨.bool (!b), by rw [run_neq_struct, hrun b hb]; rfl, by simp [Rn]⟩
            · cases h
          · cases hfe
        · cases hfe
      · cases h
  · split at h
    · rename_i hk
      have key : ∀ b, nilEq x y = some b → (∀ w : World, (Op.equal t rx ry).run P w = .ok b w) ∧ (∀ op, (eqGuard op t X Y rx ry).run P w = .ok () w) ∧ (∀ w : World, (binOp .eql t rx ry).run P w = .ok (.bool b) w) ∧ (∀ w : World, (binOp .neq t rx ry).run P w = .ok (.bool (!b)) w) := by
        intro b hb
        have fin : (∀ w : World, (Op.equal t rx ry).run P w = .ok b w) → (∀ op, (eqGuard op t X Y rx ry).run P w = .ok () w) → (binOp .eql t rx ry = (do pure (.bool (← Op.equal t rx ry)))) → (binOp .neq t rx ry = (do pure (.bool (!(← Op.equal t rx ry))))) → (∀ w : World, (Op.equal t rx ry).run P w = .ok b w) ∧ (∀ op, (eqGuard op t X Y rx ry).run P w = .ok () w) ∧ (∀ w : World, (binOp .eql t rx ry).run P w = .ok (.bool b) w) ∧ (∀ w : World, (binOp .neq t rx ry).run P w = .ok (.bool (!b)) w) := by
          intro h1 h2 h3 h4
          exact ⟨h1, h2, fun w => by rw [h3]; simp [h1 w], fun w => by rw [h4]; simp [h1 w]⟩
        unfold nilEq at hb
        split at hb <;> first | cases hb; done | (injection hb with hb; subst hb) <;> simp only [Rn] at hx hy
        · obtain ⟨ex, _, rfl⟩ := hx
          subst hy
          simp only [nilKind] at hk
          (split at hk; rotate_left; cases hk)
          rename_i hu
          exact fin (eqv fun d w => by simp [Op.equalIn, run_underlying hu]) (fun op => by rw [eqGuard_at_pointer]; rfl) rfl rfl
        · obtain ⟨ey, _, rfl⟩ := hy
          subst hx
          simp only [nilKind] at hk
          (split at hk; rotate_left; cases hk)
          rename_i hu
          exact fin (eqv fun d w => by simp [Op.equalIn, run_underlying hu]) (fun op => by rw [eqGuard_at_pointer]; rfl) rfl rfl
        · subst hx hy
          simp only [nilKind] at hk
          (split at hk; rotate_left; cases hk)
          rename_i hu
          exact fin (eqv fun d w => by simp [Op.equalIn, run_underlying hu]) (fun op => by rw [eqGuard_at_pointer]; rfl) rfl rfl
        · have hy : ry = .slice none 0 0 := by
            rcases hy with ⟨_, _, h⟩ | ⟨_, _, h⟩
            · exact h
            · simp only [slR] at h
          subst hy
          simp only [nilKind] at hk
          (split at hk; rotate_left; cases hk)
          rename_i hu
          rcases hx with ⟨rfl, _, rfl⟩ | ⟨_, _, hx⟩
          · exact fin (eqv fun d w => by simp [Op.equalIn, run_underlying hu, Cap.isNil]) (fun op => by rw [eqGuard_at_slice]; rfl) rfl rfl
          · have hni := slR_isNil hx
            obtain ⟨a, n, c', rfl⟩ := slR_some hx
            rw [hni] at fin ⊢
            exact fin (eqv fun d w => by simp [Op.equalIn, run_underlying hu]) (fun op => by rw [eqGuard_at_slice]; rfl) rfl rfl
        · obtain ⟨ex, _, rfl⟩ := hx
          subst hy
          simp only [nilKind] at hk
          (split at hk; rotate_left; cases hk)
          rename_i hu
          exact fin (eqv fun d w => by simp [Op.equalIn, run_underlying hu]) (fun op => by rw [eqGuard_at_map]; rfl) rfl rfl
        · subst hx hy
          simp only [nilKind] at hk
          (split at hk; rotate_left; cases hk)
          rename_i hu
          exact fin (eqv fun d w => by simp [Op.equalIn, run_underlying hu]) (fun op => by rw [eqGuard_at_map]; rfl) rfl rfl
        · obtain ⟨ra, rc, rfl, _⟩ := hx
          subst hy
          simp only [nilKind] at hk
          (split at hk; rotate_left; cases hk)
          rename_i hu
          exact fin (eqv fun d w => by simp [Op.equalIn, run_underlying hu]) (fun op => by rw [eqGuard_at_func]; rfl) rfl rfl
        · subst hx hy
          simp only [nilKind] at hk
          (split at hk; rotate_left; cases hk)
          rename_i hu
          exact fin (eqv fun d w => by simp [Op.equalIn, run_underlying hu]) (fun op => by rw [eqGuard_at_nilFunc]; rfl) rfl rfl
        · obtain ⟨_, rfl, _⟩ := hx
          subst hy
          simp only [nilKind] at hk
          (split at hk; rotate_left; cases hk)
          rename_i hu
          exact fin (eqv fun d w => by simp [Op.equalIn, run_underlying hu]) (fun op => by rw [eqGuard_at_iface]; rfl) rfl rfl
        · obtain ⟨_, rfl, _⟩ := hy
          subst hx
          exact absurd hk (by simp [nilKind])
      split at h
      · rename_i b hb
        injection h with h
        subst h
        obtain ⟨_, h2, h3, _⟩ := key b hb
        exact ⟨.bool b, by simp [h2, h3], by simp [Rn]⟩
      · rename_i b hb
        injection h with h
        subst h
        obtain ⟨_, h2, _, h4⟩ := key b hb
        exact ⟨.bool (!b), by simp [h2, h4], by simp [Rn]⟩
      · cases h
    · cases h

theorem sound_binOp (hT : Inv w0 p T w) (he : ∀ x v, e x = some v → Rn p v (ρ x)) {op : BinOp} {t t' : TypeId} {x y : Operand} (ho : o.op = .binOp op t x y t') {a b : V} (hx : e x = some a) (hy : e y = some b) (hf : binA P op t a b = some v) : Owes P w0 p T w ρ o nb v := by
  obtain ⟨r, h1, h2⟩ := binA_run (w := w) hf (he x a hx) (he y b hy) x y
  refine Owes.same hT (r := r) ?_ h2
  simp only [execOp, ho, Sem.run_bind] at h1 ⊢
  rw [h1]
  rfl

theorem sound_unOp (hT : Inv w0 p T w) (he : ∀ x v, e x = some v → Rn p v (ρ x)) {op : UnOp} {t : TypeId} {x : Operand} (ho : o.op = .unOp op t x) {a : V} (hx : e x = some a) (hf : unA op a = some v) : Owes P w0 p T w ρ o nb v := by
  have h1 := he x a hx
  unfold unA at hf
  split at hf <;> first | cases hf; done | (injection hf with hf; subst hf) <;> simp only [Rn] at h1
  · exact Owes.same hT (by simp [execOp, ho, h1, Op.unary, Op.intArith]; rfl) (by simp [Rn])
  · exact Owes.same hT (by simp [execOp, ho, h1, Op.unary]; rfl) (by simp [Rn])

theorem sound_makeInterface (hT : Inv w0 p T w) (he : ∀ x v, e x = some v → Rn p v (ρ x)) {t : TypeId} {x : Operand} (ho : o.op = .makeInterface t x) {a : V} (hx : e x = some a) {d : TypeDesc} (hu : P.underlying t = some d) (hd : ∀ m, d ≠ .interface m) : Owes P w0 p T w ρ o nb (.iface t a) := by
  refine Owes.same hT (r := .iface t (ρ x)) ?_ (by simp only [Rn]; exact ⟨_, rfl, he x a hx⟩)
  cases d <;> first | (exact absurd rfl (hd _)) | simp [execOp, ho, Instr.makeInterface, und_run hu]

theorem sound_makeFunc (hT : Inv w0 p T w) (he : ∀ x v, e x = some v → Rn p v (ρ x)) {f : FuncId} {first cap : Array Operand} (ho : o.op = .makeFunc (.func f) first cap) {a c : List V} (h1 : evL e first.toList = some a) (h2 : evL e cap.toList = some c) : Owes P w0 p T w ρ o nb (.fn f a c) := by
  refine Owes.same hT (r := .func (.func f) (first.map ρ) (cap.map ρ)) (by simp [execOp, ho, Instr.makeFunc]) ?_
  simp only [Rn]
  exact ⟨first.toList.map ρ, cap.toList.map ρ, by rw [← Array.toList_map, ← Array.toList_map], evL_rn he h1, evL_rn he h2⟩

theorem sound_makeMap (hT : Inv w0 p T w) (hn : p nb = none) (hb : T[nb]? = some (.mp [])) {t : TypeId} {x : Option Operand} (ho : o.op = .makeMap t x) (hx : ∀ y, x = some y → (∃ k el, P.underlying t = some (.map k el)) ∧ ∃ k n, ρ y = .int k n) : Owes P w0 p T w ρ o nb (.map nb) := by
  refine ⟨.map (some w.heap.size), w.alloc (.map #[] 0), p.put nb ⟨w.heap.size, 0, 0⟩, ?_, PMap.le_put _ hn, fun z hz => PMap.put_ne _ _ hz, by simp only [Rn]; exact ⟨_, PMap.put_same _ _ _, rfl⟩, hT.allocMap hn hb 0⟩
  cases x with
  | none => simp [execOp, ho, Instr.makeMap]
  | some y =>
    obtain ⟨⟨k, el, hu⟩, kk, n, hr⟩ := hx y rfl
    simp [execOp, ho, Instr.makeMap, und_run hu, hr, asInt, asIntOf]

theorem sound_fieldAddr (hT : Inv w0 p T w) (he : ∀ x v, e x = some v → Rn p v (ρ x)) {s : TypeId} {x : Operand} {f : Nat} (ho : o.op = .fieldAddr s x f) {fs : Array Field} (hu : P.underlying s = some (.struct fs)) {b i : Nat} (hx : e x = some (.ptr b i)) {fl : Field} (hf : fs[f]? = some fl) {n : Nat} (hs : tsize P fl.type = some (n + 1)) : Owes P w0 p T w ρ o nb (.ptr b (i + fl.offset)) := by
  have h1 := he x _ hx
  simp only [Rn] at h1
  obtain ⟨en, hp, hr⟩ := h1
  refine Owes.same hT (r := .pointer (some ⟨en.blk, en.off + (i + fl.offset), none⟩)) ?_ (by simp only [Rn]; exact ⟨en, hp, rfl⟩)
  simp [execOp, ho, Instr.fieldAt, und_run hu, hf, hr, Instr.sureAddr, fieldPlace, tsize_run hs, add_addr, Nat.add_assoc]

theorem partA_run {t : TypeId} {cs : List V} {off : Nat} (h : partA P t cs off = some v) {rs : List Value} (hr : RnL p cs rs) : ∃ r, (part t (List.toArray rs) off).run P w = .ok r w ∧ Rn p v r := by
  unfold partA at h
  (split at h; rotate_left; cases h)
  rename_i ht
  have hg := tagg_run (P := P) ht w
  split at h
  · rename_i h2
    cases hs : tsize P t with
    | none => simp [hs] at h
    | some n =>
      simp only [hs, Option.map_some, Option.some.injEq] at h
      subst h
      refine ⟨.agg (List.toArray ((rs.drop off).take n)), ?_, ?_⟩
      · rw [h2] at hg
        simp [part, hg, tsize_run hs, List.extract_eq_take_drop]
      · simp only [Rn]
        refine ⟨_, rfl, RnL.of_get (by simp [hr.length]) fun i v r hv hr' => ?_⟩
        rw [List.getElem?_take] at hv hr'
        split at hv
        · rename_i hi
          rw [if_pos hi] at hr'
          rw [List.getElem?_drop] at hv hr'
          obtain ⟨r2, h3, h4⟩ := hr.get _ _ hv
          rw [h3] at hr'
          injection hr' with hr'
          exact hr' ▸ h4
        · cases hv
  · rename_i h2
    obtain ⟨r, h3, h4⟩ := hr.get _ _ h
    refine ⟨r, ?_, h4⟩
    have : tagg P t = false := by simpa using h2
    rw [this] at hg
    simp [part, hg, h3]

theorem sound_field (hT : Inv w0 p T w) (he : ∀ x v, e x = some v → Rn p v (ρ x)) {s : TypeId} {x : Operand} {f : Nat} (ho : o.op = .field s x f) {fs : Array Field} (hu : P.underlying s = some (.struct fs)) {cs : List V} (hx : e x = some (.agg cs)) {fl : Field} (hf : fs[f]? = some fl) (hv : partA P fl.type cs fl.offset = some v) : Owes P w0 p T w ρ o nb v := by
  have h1 := he x _ hx
  simp only [Rn] at h1
  obtain ⟨rs, hr, hrl⟩ := h1
  obtain ⟨r, h2, h3⟩ := partA_run (w := w) hv hrl
  refine Owes.same hT (r := r) ?_ h3
  simp [execOp, ho, Instr.field, und_run hu, hf, hr, asAgg, h2]

theorem sl_addr {b i n : Nat} {c : Cap} {r : Value} (h : Rn p (.sl b i n c) r) (hn : 0 < n) : ∃ en c', p b = some en ∧ r = .slice (some ⟨en.blk, en.off + i, none⟩) n c' ∧ n ≤ c' := by
  simp only [Rn] at h
  rcases h with ⟨_, h, _⟩ | ⟨en, hp, h⟩
  · omega
  cases c with
  | nil => simp only [slR] at h
  | ex c =>
    simp only [slR] at h
    rcases h.2 with h2 | ⟨h2, _⟩
    · exact ⟨en, c, hp, h2, h.1⟩
    · omega
  | toEnd sz =>
    simp only [slR] at h
    rcases h.2.2 with h2 | ⟨h2, _⟩
    · exact ⟨en, _, hp, h2, h.2.1⟩
    · omega

theorem sl_some {b i n : Nat} {c : Cap} {r : Value} (h : Rn p (.sl b i n c) r) : ∃ a c', r = .slice a n c' ∧ n ≤ c' := by
  simp only [Rn] at h
  rcases h with ⟨_, rfl, h⟩ | ⟨en, hp, h⟩
  · exact ⟨none, 0, h, Nat.le_refl _⟩
  cases c with
  | nil => simp only [slR] at h
  | ex c =>
    simp only [slR] at h
    rcases h.2 with h2 | ⟨h2, a, h3⟩
    · exact ⟨_, c, h2, h.1⟩
    · have : n = 0 := by omega
      subst this; exact ⟨some a, 0, h3, Nat.le_refl _⟩
  | toEnd sz =>
    simp only [slR] at h
    rcases h.2.2 with h2 | ⟨h2, _, a, h3⟩
    · exact ⟨_, _, h2, h.2.1⟩
    · subst h2; exact ⟨some a, 0, h3, Nat.le_refl _⟩

theorem sound_indexAddr (hT : Inv w0 p T w) (he : ∀ x v, e x = some v → Rn p v (ρ x)) {t : TypeId} {x ix : Operand} (ho : o.op = .indexAddr t x ix) {u : V} (hx : e x = some u) {k : IntKind} {n : Int} (hi : e ix = some (.int k n)) (hv : idxA P t u n = some v) : Owes P w0 p T w ρ o nb v := by
  have h1 := he x _ hx
  have h2 := he ix _ hi
  simp only [Rn] at h2
  unfold idxA at hv
  split at hv
  · rename_i len el b i hu
    cases hs : tsize P el with
    | none => simp [hs] at hv
    | some sz =>
      simp only [hs] at hv
      (split at hv; rotate_left; cases hv)
      rename_i hk
      injection hv with hv
      subst hv
      simp only [Rn] at h1
      obtain ⟨en, hp, hr⟩ := h1
      refine Owes.same hT (r := .pointer (some ⟨en.blk, en.off + (i + n.toNat * sz), none⟩)) ?_ (by simp only [Rn]; exact ⟨en, hp, rfl⟩)
      simp [execOp, ho, Instr.indexAt, und_run hu, hr, h2, asIntOf, Instr.sureAddr, tsize_run hs, add_addr, hk.1, hk.2, Nat.add_assoc]
  · rename_i el b i len c hu
    cases hs : tsize P el with
    | none => simp [hs] at hv
    | some sz =>
      simp only [hs] at hv
      (split at hv; rotate_left; cases hv)
      rename_i hk
      injection hv with hv
      subst hv
      obtain ⟨en, c', hp, hr, _⟩ := sl_addr h1 (by omega)
      refine Owes.same hT (r := .pointer (some ⟨en.blk, en.off + (i + n.toNat * sz), none⟩)) ?_ (by simp only [Rn]; exact ⟨en, hp, rfl⟩)
      simp [execOp, ho, Instr.indexAt, und_run hu, hr, h2, asIntOf, Instr.sureAddr, tsize_run hs, add_addr, hk.1, hk.2, Nat.add_assoc]
  · cases hv

theorem sound_index (hT : Inv w0 p T w) (he : ∀ x v, e x = some v → Rn p v (ρ x)) {t : TypeId} {x ix : Operand} (ho : o.op = .index t x ix) {u : V} (hx : e x = some u) {k : IntKind} {n : Int} (hi : e ix = some (.int k n)) (hv : indexA P t u n = some v) : Owes P w0 p T w ρ o nb v := by
  have h1 := he x _ hx
  have h2 := he ix _ hi
  simp only [Rn] at h2
  unfold indexA at hv
  split at hv
  · rename_i s hu
    (split at hv; rotate_left; cases hv)
    rename_i hk
    cases hc : s[n.toNat]? with
    | none => simp [hc] at hv
    | some c =>
      simp [hc] at hv
      subst hv
      simp only [Rn] at h1
      refine Owes.same hT (r := .int .u8 c.toNat) ?_ (by simp [Rn])
      have hg : (⟨⟨s⟩⟩ : ByteArray)[n.toNat]? = some c := by
        obtain ⟨hlt, hc⟩ := List.getElem?_eq_some_iff.1 hc
        rw [getElem?_pos _ _ (by exact hlt)]
        exact congrArg some hc
      simp [execOp, ho, Instr.index, und_run hu, h1, h2, asIntOf, hk, hg]
  · rename_i len el cs hu
    cases hs : tsize P el with
    | none => simp [hs] at hv
    | some sz =>
      simp only [hs] at hv
      (split at hv; rotate_left; cases hv)
      rename_i hk
      simp only [Rn] at h1
      obtain ⟨rs, hr, hrl⟩ := h1
      obtain ⟨r, h3, h4⟩ := partA_run (w := w) hv hrl
      refine Owes.same hT (r := r) ?_ h4
      simp [execOp, ho, Instr.index, und_run hu, hr, h2, asIntOf, hk.1, hk.2, tsize_run hs, h3]
  · cases hv

theorem sound_extract (hT : Inv w0 p T w) (he : ∀ x v, e x = some v → Rn p v (ρ x)) {x : Operand} {k : Nat} (ho : o.op = .extract x k) {vs : List V} (hx : e x = some (.tup vs)) (hv : vs[k]? = some v) : Owes P w0 p T w ρ o nb v := by
  have h1 := he x _ hx
  simp only [Rn] at h1
  obtain ⟨rs, hr, hrl⟩ := h1
  obtain ⟨r, h2, h3⟩ := hrl.get _ _ hv
  exact Owes.same hT (r := r) (by simp [execOp, ho, Instr.extract, hr, h2]) h3

end
end Go.Proofs.YtpjkammmoaeheaaDoor.Aw

/- The model yields what 'fop' says: conversions, slices, maps, what is made. -/
set_option linter.unusedSimpArgs false
set_option linter.unusedVariables false
namespace Go.Proofs.YtpjkammmoaeheaaDoor.Aw
open Go Go.RowKit

section
variable {P : Program} {w0 w : World} {p : PMap} {H T : AH} {e : Operand → Option V} {ρ : Operand → Value} {o : Oper} {nb : Nat} {v : V} {ob : Option Blk}

/-! ### slices -/
theorem bound_run {k : IntKind} {i : Int} {y : Nat} {code : BoundsCode} (h0 : 0 ≤ i) (h1 : i ≤ y) (w : World) : (Instr.sliceBound (.int k i) y code).run P w = .ok i.toNat w := run_sliceBound w k i y code h0 h1

/-- Evaluated bounds and the values that they stand for. -/
def OptR (x : Option Int) (r : Option Value) : Prop :=
  match x with
  | none => r = none
  | some n => ∃ k, r = some (.int k n)

theorem optI_rn (he : ∀ x v, e x = some v → Rn p v (ρ x)) {x : Option Operand} {n : Option Int} (h : optI e x = some n) : OptR n (x.map ρ) := by
  cases x with
  | none => simp [optI] at h; subst h; rfl
  | some x =>
    simp only [optI] at h
    split at h
    · rename_i k m hx
      injection h with h
      subst h
      have := he x _ hx
      simp only [Rn] at this
      exact ⟨k, by simp [this]⟩
    · cases h

theorem bounds_run {lo hi mx : Option Int} {rl rh rm : Option Value} (h1 : OptR lo rl) (h2 : OptR hi rh) (h3 : OptR mx rm) {isS : Bool} {n cap : Nat}
    (hm : mx.isSome → hi.isSome) (b0 : 0 ≤ lo.getD 0) (b1 : lo.getD 0 ≤ hi.getD n) (b2 : hi.getD n ≤ mx.getD cap) (b3 : mx.getD cap ≤ cap) (w : World) :
    (Instr.sliceBounds isS n cap rl rh rm).run P w = .ok ((lo.getD 0).toNat, (hi.getD n).toNat, (mx.getD cap).toNat) w := by
  have e1 : ∀ z : Int, 0 ≤ z → ((z.toNat : Nat) : Int) = z := fun z hz => Int.toNat_of_nonneg hz
  cases lo <;> cases hi <;> cases mx <;> simp only [OptR, Option.getD_none, Option.getD_some, Option.isSome_none, Option.isSome_some, Bool.false_eq_true, imp_false, not_true_eq_false, forall_const] at h1 h2 h3 hm b0 b1 b2 b3
  all_goals (try obtain ⟨k1, rfl⟩ := h1)
  all_goals (try obtain ⟨k2, rfl⟩ := h2)
  all_goals (try obtain ⟨k3, rfl⟩ := h3)
  all_goals (try subst h1)
  all_goals (try subst h2)
  all_goals (try subst h3)
  all_goals simp only [Instr.sliceBounds, Sem.run_bind, Sem.run_pure, Result.andThen_ok, Option.isSome_none, Option.isSome_some, if_true, if_false, Bool.false_eq_true]
  all_goals
    first
      | rfl
      | (repeat (first | rw [bound_run (by omega) (by first | omega | (rw [e1 _ (by omega)]; omega))] | simp only [Result.andThen_ok, Sem.run_bind, Sem.run_pure]))
        first | rfl | simp

theorem cutCap_ne {c : Cap} {l : Nat} (h : c ≠ .nil) : cutCap c l ≠ .nil := by
  cases c <;> simp_all [cutCap]

theorem sliceSl_run {sz : Nat} (hsz : 0 < sz) {b i n : Nat} {c : Cap} {lo hi mx : Option Int} {u : V} (h : sliceSl sz b i n c lo hi mx = some u) {r : Value} (hr : Rn p (.sl b i n c) r) :
    ∃ (a : Option Addr) (k : Nat), r = .slice a n k ∧ (mx.isSome → hi.isSome) ∧ 0 ≤ lo.getD 0 ∧ lo.getD 0 ≤ hi.getD n ∧ hi.getD n ≤ mx.getD k ∧ mx.getD k ≤ k ∧
      Rn p u (.slice (if (mx.getD k).toNat = (lo.getD 0).toNat then a else a.map (·.add ((lo.getD 0).toNat * sz))) ((hi.getD n).toNat - (lo.getD 0).toNat) ((mx.getD k).toNat - (lo.getD 0).toNat)) := by
  simp only [Rn] at hr
  unfold sliceSl at h
  generalize hl : lo.getD 0 = l at h ⊢
  rcases hr with ⟨rfl, rfl, rfl⟩ | ⟨en, hp, hr⟩
  · cases mx with
    | some m =>
      cases hi with
      | none => simp at h
      | some hh =>
        simp only at h
        split at h
        · rename_i hc
          injection h with h
          subst h
          have h1 : l = 0 := by omega
          have h2 : m = 0 := by omega
          have h3 : hh = 0 := by omega
          subst h1 h2 h3
          exact ⟨none, 0, rfl, by simp, by simp, by simp, by simp, by simp, by simp [Rn]⟩
        · cases h
    | none =>
      simp only at h
      split at h
      · rename_i hc
        split at h
        · injection h with h
          subst h
          have h1 : l = 0 := by omega
          have h3 : hi.getD ((0 : Nat) : Int) = 0 := by omega
          subst h1
          rw [h3]
          exact ⟨none, 0, rfl, by simp, by simp, by simp, by simp, by simp, by simp [Rn, cutCap]⟩
        · cases h
      · cases h
  cases mx with
  | some m =>
    cases hi with
    | none => simp at h
    | some hh =>
      simp only at h
      split at h
      · rename_i hc
        injection h with h
        subst h
        cases c with
        | nil => simp only [slR] at hr
        | ex c =>
          simp only [slR] at hr
          obtain ⟨hn, hr⟩ := hr
          rcases hr with rfl | ⟨rfl, a, rfl⟩
          · refine ⟨_, c, rfl, by simp, hc.1, hc.2.1, hc.2.2.1, by simp only [Option.getD_some]; omega, ?_⟩
            simp only [Option.getD_some, Option.map_some, Rn]
            refine .inr ⟨en, hp, ?_⟩
            simp only [slR]
            refine ⟨by omega, ?_⟩
            by_cases hml : m.toNat = l.toNat
            · refine .inr ⟨by omega, ⟨en.blk, en.off + i, none⟩, ?_⟩
              rw [if_pos hml, show hh.toNat - l.toNat = 0 by omega, show m.toNat - l.toNat = 0 by omega]
            · refine .inl ?_
              rw [if_neg hml, add_addr, Nat.add_assoc, show (hh - l).toNat = hh.toNat - l.toNat by omega, show (m - l).toNat = m.toNat - l.toNat by omega]
          · have : n = 0 := by omega
            subst this
            refine ⟨some a, 0, rfl, by simp, hc.1, hc.2.1, hc.2.2.1, by simp only [Option.getD_some]; omega, ?_⟩
            simp only [Option.getD_some, Option.map_some, Rn]
            refine .inr ⟨en, hp, ?_⟩
            simp only [slR]
            refine ⟨by omega, .inr ⟨by omega, a, ?_⟩⟩
            rw [if_pos (by omega), show hh.toNat - l.toNat = 0 by omega, show m.toNat - l.toNat = 0 by omega]
        | toEnd z =>
          simp only [slR] at hr
          obtain ⟨hz, hn, hr⟩ := hr
          rcases hr with rfl | ⟨rfl, hz0, a, rfl⟩
          · refine ⟨_, _, rfl, by simp, hc.1, hc.2.1, hc.2.2.1, by simp only [Option.getD_some]; omega, ?_⟩
            simp only [Option.getD_some, Option.map_some, Rn]
            refine .inr ⟨en, hp, ?_⟩
            simp only [slR]
            refine ⟨by omega, ?_⟩
            by_cases hml : m.toNat = l.toNat
            · refine .inr ⟨by omega, ⟨en.blk, en.off + i, none⟩, ?_⟩
              rw [if_pos hml, show hh.toNat - l.toNat = 0 by omega, show m.toNat - l.toNat = 0 by omega]
            · refine .inl ?_
              rw [if_neg hml, add_addr, Nat.add_assoc, show (hh - l).toNat = hh.toNat - l.toNat by omega, show (m - l).toNat = m.toNat - l.toNat by omega]
          · refine ⟨some a, 0, rfl, by simp, hc.1, hc.2.1, hc.2.2.1, by simp only [Option.getD_some]; omega, ?_⟩
            simp only [Option.getD_some, Option.map_some, Rn]
            refine .inr ⟨en, hp, ?_⟩
            simp only [slR]
            refine ⟨by omega, .inr ⟨by omega, a, ?_⟩⟩
            rw [if_pos (by omega), show hh.toNat - l.toNat = 0 by omega, show m.toNat - l.toNat = 0 by omega]
      · cases h
  | none =>
    simp only at h
    split at h
    · rename_i hc
      split at h
      · rename_i hfit
        injection h with h
        subst h
        cases c with
        | nil => simp only [slR] at hr
        | ex c =>
          simp only [slR] at hr
          obtain ⟨hn, hr⟩ := hr
          rcases hr with rfl | ⟨rfl, a, rfl⟩
          · refine ⟨_, c, rfl, by simp, hc.1, hc.2.1, by simp only [Option.getD_none]; omega, by simp, ?_⟩
            simp only [Option.getD_none, Option.map_some, Int.toNat_natCast, Rn]
            refine .inr ⟨en, hp, ?_⟩
            simp only [slR, cutCap]
            refine ⟨by omega, ?_⟩
            by_cases hml : c = l.toNat
            · refine .inr ⟨by omega, ⟨en.blk, en.off + i, none⟩, ?_⟩
              rw [if_pos hml, show (hi.getD (n : Int)).toNat - l.toNat = 0 by omega, show c - l.toNat = 0 by omega]
            · refine .inl ?_
              rw [if_neg hml, add_addr, Nat.add_assoc, show (hi.getD (n : Int) - l).toNat = (hi.getD (n : Int)).toNat - l.toNat by omega]
          · have hn0 : n = 0 := by omega
            subst hn0
            have h0 : l = 0 := by omega
            have hh0 : hi.getD ((0 : Nat) : Int) = 0 := by omega
            refine ⟨some a, 0, rfl, by simp, hc.1, hc.2.1, by simp only [Option.getD_none]; omega, by simp, ?_⟩
            rw [h0, hh0, if_pos (by simp)]
            simp only [Rn]
            refine .inr ⟨en, hp, ?_⟩
            simp only [slR, cutCap]
            exact ⟨by simp, .inr ⟨by simp, a, by simp⟩⟩
        | toEnd z =>
          have hzs : z = sz := by simpa [capFit] using hfit
          subst hzs
          simp only [slR] at hr
          obtain ⟨hz, hn, hr⟩ := hr
          have hdiv : (en.ext - (i + l.toNat * z)) / z = (en.ext - i) / z - l.toNat := by
            rw [Nat.sub_add_eq, Nat.mul_comm, Nat.sub_mul_div]
          rcases hr with rfl | ⟨rfl, hz0, a, rfl⟩
          · refine ⟨_, _, rfl, by simp, hc.1, hc.2.1, by simp only [Option.getD_none]; omega, by simp, ?_⟩
            simp only [Option.getD_none, Option.map_some, Int.toNat_natCast]
            by_cases hml : (en.ext - i) / z = l.toNat
            · rw [if_pos hml]
              simp only [Rn]
              refine .inr ⟨en, hp, ?_⟩
              simp only [slR, cutCap]
              refine ⟨hz, by omega, .inr ⟨by omega, by omega, ⟨en.blk, en.off + i, none⟩, ?_⟩⟩
              congr 1 <;> omega
            · rw [if_neg hml]
              simp only [Rn]
              refine .inr ⟨en, hp, ?_⟩
              simp only [slR, cutCap]
              refine ⟨hz, by omega, .inl ?_⟩
              rw [add_addr, Nat.add_assoc, hdiv, show (hi.getD (n : Int) - l).toNat = (hi.getD (n : Int)).toNat - l.toNat by omega]
          · have h0 : l = 0 := by omega
            have hh0 : hi.getD ((0 : Nat) : Int) = 0 := by omega
            refine ⟨some a, 0, rfl, by simp, hc.1, hc.2.1, by simp only [Option.getD_none]; omega, by simp, ?_⟩
            rw [h0, hh0]
            simp only [Rn]
            refine .inr ⟨en, hp, ?_⟩
            simp only [slR, cutCap]
            refine ⟨hz, by simp, .inr ⟨by simp, by simpa [h0] using hz0, a, by simp⟩⟩
      · cases h
    · cases h

theorem sound_slice (hT : Inv w0 p T w) (he : ∀ x v, e x = some v → Rn p v (ρ x)) {t : TypeId} {x : Operand} {lo hi mx : Option Operand} (ho : o.op = .slice t x lo hi mx) {u : V} (hx : e x = some u)
    {l h m : Option Int} (hl : optI e lo = some l) (hh : optI e hi = some h) (hm : optI e mx = some m) (hv : sliceA P t u l h m = some v) : Owes P w0 p T w ρ o nb v := by
  have h1 := he x _ hx
  have rl := optI_rn he hl
  have rh := optI_rn he hh
  have rm := optI_rn he hm
  unfold sliceA at hv
  split at hv
  · rename_i s hu
    split at hv
    · cases hv
    · rename_i hmn
      have hm0 : m = none := by simpa using hmn
      subst hm0
      simp only [Rn] at h1
      have hsz : (⟨⟨s⟩⟩ : ByteArray).size = s.length := rfl
      have hmx : mx.map ρ = none := rm
      have key : ∀ (a b : Nat) , a = (l.getD 0).toNat → b = (h.getD s.length).toNat → 0 ≤ l.getD 0 → l.getD 0 ≤ h.getD s.length → h.getD s.length ≤ s.length → v = .str ((s.take b).drop a) → Owes P w0 p T w ρ o nb v := by
        rintro a b rfl rfl b0 b1 b2 rfl
        have hb := bounds_run (P := P) (isS := false) (n := s.length) (cap := s.length) rl rh (mx := none) (rm := none) rfl (by simp) b0 b1 (by simpa using b2) (by simp) w
        refine Owes.same hT (r := .string ⟨⟨(s.take (h.getD s.length).toNat).drop (l.getD 0).toNat⟩⟩) ?_ (by simp [Rn])
        have hex : (⟨⟨s⟩⟩ : ByteArray).extract (l.getD 0).toNat (h.getD s.length).toNat = ⟨⟨(s.take (h.getD s.length).toNat).drop (l.getD 0).toNat⟩⟩ := by
          apply ByteArray.ext
          apply Array.ext'
          rw [Lib.extract_data]
          show _ = List.drop _ _
          rw [List.drop_take]
        simp [execOp, ho, Instr.sliceAt, Instr.slice, und_run hu, h1, hmx, hsz, hb, hex]
      unfold sliceStr at hv
      split at hv
      · injection hv with hv; subst hv
        exact key 0 s.length (by simp) (by simp) (by simp) (by simp) (by simp) (by simp)
      · split at hv
        · rename_i a hc
          injection hv with hv; subst hv
          exact key _ s.length rfl (by simp) (by simpa using hc.1) (by simpa using hc.2) (by simp) (by simp)
        · cases hv
      · split at hv
        · rename_i a hc
          injection hv with hv; subst hv
          exact key 0 _ (by simp) rfl (by simp) (by simpa using hc.1) (by simpa using hc.2) (by simp)
        · cases hv
      · split at hv
        · rename_i a b hc
          injection hv with hv; subst hv
          exact key _ _ rfl rfl (by simpa using hc.1) (by simpa using hc.2.1) (by simpa using hc.2.2) (by simp)
        · cases hv
  · rename_i el b i n c hu
    cases hs : tsize P el with
    | none => simp [hs] at hv
    | some sz =>
      simp only [hs] at hv
      (split at hv; rotate_left; cases hv)
      rename_i hsz
      obtain ⟨a, k, hr, c1, c2, c3, c4, c5, c6⟩ := sliceSl_run hsz hv h1
      have hb := bounds_run (P := P) (isS := true) (n := n) (cap := k) rl rh rm c1 c2 c3 c4 c5 w
      refine Owes.same hT ?_ c6
      simp [execOp, ho, Instr.sliceAt, Instr.slice, und_run hu, hr, hb, tsize_run hs]
  · rename_i n el b i hu
    cases hs : tsize P el with
    | none => simp [hs] at hv
    | some sz =>
      simp only [hs] at hv
      (split at hv; rotate_left; cases hv)
      rename_i hsz
      simp only [Rn] at h1
      obtain ⟨en, hp, hr⟩ := h1
      have h2 : Rn p (.sl b i n (.ex n)) (.slice (some ⟨en.blk, en.off + i, none⟩) n n) := by
        simp only [Rn]
        exact .inr ⟨en, hp, by simp only [slR]; exact ⟨Nat.le_refl _, .inl trivial⟩⟩
      obtain ⟨a, k, hr2, c1, c2, c3, c4, c5, c6⟩ := sliceSl_run hsz hv h2
      simp only [Value.slice.injEq] at hr2
      obtain ⟨rfl, _, rfl⟩ := hr2
      have hb := bounds_run (P := P) (isS := false) (n := n) (cap := n) rl rh rm c1 c2 c3 c4 c5 w
      refine Owes.same hT ?_ c6
      by_cases hq : (m.getD (n : Int)).toNat = (l.getD 0).toNat <;>
      simp [execOp, ho, Instr.sliceAt, und_run hu, hr, hb, tsize_run hs, Instr.sureAddr, hq]
  · cases hv

end
end Go.Proofs.YtpjkammmoaeheaaDoor.Aw

/- The model yields what 'fop' says: conversions, maps, lengths, least and greatest, what is made of parts. -/
set_option linter.unusedSimpArgs false
set_option linter.unusedVariables false
namespace Go.Proofs.YtpjkammmoaeheaaDoor.Aw
open Go Go.RowKit

section
variable {P : Program} {w0 w : World} {p : PMap} {H T : AH} {e : Operand → Option V} {ρ : Operand → Value} {o : Oper} {nb : Nat} {v : V} {ob : Option Blk}

theorem u8_und {t : TypeId} (h : u8T P t = true) : P.underlying t = some (.int .u8) := by
  unfold u8T at h
  split at h
  · assumption
  · cases h

theorem unbytes_rn : ∀ {vs : List V} {s : List UInt8} {rs : List Value}, unbytes vs = some s → RnL p vs rs → ∃ ns : List Int, rs = ns.map (Value.int .u8) ∧ s = ns.map fun n => UInt8.ofNat n.toNat
  | [], s, rs, h, hr => by
    simp [unbytes] at h
    simp only [RnL] at hr
    subst h hr
    exact ⟨[], rfl, rfl⟩
  | v :: vs, s, rs, h, hr => by
    simp only [RnL] at hr
    obtain ⟨r, rs', rfl, h1, h2⟩ := hr
    have : ∃ n, v = .int .u8 n := by
      cases v <;> first | (simp [unbytes] at h; done) | skip
      rename_i k n
      cases k <;> first | (simp [unbytes] at h; done) | exact ⟨n, rfl⟩
    obtain ⟨n, rfl⟩ := this
    simp only [unbytes] at h
    cases hu : unbytes vs with
    | none => simp [hu] at h
    | some l =>
      simp [hu] at h
      subst h
      obtain ⟨ns, rfl, rfl⟩ := unbytes_rn hu h2
      simp only [Rn] at h1
      exact ⟨n :: ns, by simp [h1], by simp⟩

theorem foldl_push (ns : List Int) : ∀ (b : List UInt8), ns.foldl (fun r n => r.push (UInt8.ofNat n.toNat)) (⟨⟨b⟩⟩ : ByteArray) = ⟨⟨b ++ ns.map fun n => UInt8.ofNat n.toNat⟩⟩ := by
  induction ns with
  | nil => intro b; simp
  | cons n ns ih =>
    intro b
    have : (⟨⟨b⟩⟩ : ByteArray).push (UInt8.ofNat n.toNat) = ⟨⟨b ++ [UInt8.ofNat n.toNat]⟩⟩ := by
      apply ByteArray.ext
      simp [ByteArray.push]
    rw [List.foldl_cons, this, ih]
    simp

theorem sound_convert (hI : Inv w0 p H w) (hT : Inv w0 p T w) (hn : p nb = none) (he : ∀ x v, e x = some v → Rn p v (ρ x)) {s d : TypeId} {x : Operand} (ho : o.op = .convert s d x) {u : V} (hx : e x = some u)
    (hv : convA P H nb s d u = some (v, ob)) (hb : ∀ b, ob = some b → T[nb]? = some b) : Owes P w0 p T w ρ o nb v := by
  have h1 := he x _ hx
  unfold convA at hv
  split at hv
  · rename_i ds k kk n hs hd
    simp only [Option.some.injEq, Prod.mk.injEq] at hv
    obtain ⟨rfl, _⟩ := hv
    simp only [Rn] at h1
    refine Owes.same hT (r := .int k (k.wrap n)) ?_ (by simp [Rn])
    cases ds <;> simp [execOp, ho, convert, und_run hs, und_run hd, h1, Conv.intToInt]
  · rename_i ds l hs hd
    simp only [Option.some.injEq, Prod.mk.injEq] at hv
    obtain ⟨rfl, _⟩ := hv
    simp only [Rn] at h1
    refine Owes.same hT (r := .string ⟨⟨l⟩⟩) ?_ (by simp [Rn])
    cases ds <;> simp [execOp, ho, convert, und_run hs, und_run hd, h1]
  · rename_i el l hs hd
    (split at hv; rotate_left; cases hv)
    rename_i hu
    simp only [Option.some.injEq, Prod.mk.injEq] at hv
    obtain ⟨rfl, rfl⟩ := hv
    simp only [Rn] at h1
    have hue := u8_und hu
    have hr := run_bytes_of_string (P := P) w s d el ⟨⟨l⟩⟩ hs hd hue
    have hge := grownCap_ge w (⟨⟨l⟩⟩ : ByteArray).size 0 el
    have hsz : (⟨⟨l⟩⟩ : ByteArray).size = l.length := rfl
    rw [hsz] at hr hge
    have hbs : (bytesRow ⟨⟨l⟩⟩ (grownCap w l.length 0 el)).size = grownCap w l.length 0 el := by
      simp only [bytesRow, Array.size_append, Array.size_map, Array.size_replicate, hsz]
      show l.length + _ = _
      omega
    have ha := hT.drew.alloc hn (hb _ rfl) (cs := bytesRow ⟨⟨l⟩⟩ (grownCap w l.length 0 el)) (t := el) (fz := ((bytesRow ⟨⟨l⟩⟩ (grownCap w l.length 0 el)).size, (bytesRow ⟨⟨l⟩⟩ (grownCap w l.length 0 el)).size + 1))
      (by rw [hbs]; simpa using hge) (by
        intro i v hv
        rw [List.getElem?_map] at hv
        cases hi : l[i]? with
        | none => simp [hi] at hv
        | some c =>
          simp [hi] at hv
          subst hv
          refine ⟨rfl, .int .u8 c.toNat, ?_, by simp [Rn, byteV]⟩
          have hil : i < l.length := (List.getElem?_eq_some_iff.1 hi).1
          rw [Nat.zero_add, bytesRow_at _ _ _ (by simpa using hil)]
          have := (List.getElem?_eq_some_iff.1 hi).2
          simp [← this]) (by
        intro i hi h
        simp only at h
        omega)
    refine ⟨_, _, _, by simp only [execOp, ho, h1, Sem.run_bind, hr, Result.andThen_ok, Sem.run_pure]; rfl, PMap.le_put _ hn, fun x hx => PMap.put_ne _ _ hx, ?_, ha⟩
    simp only [Rn]
    refine .inr ⟨_, PMap.put_same _ _ _, ?_⟩
    simp only [slR]
    rw [hbs]
    refine ⟨by omega, by simpa using hge, .inl ?_⟩
    simp only [Nat.sub_zero, Nat.div_one]
    rfl
  · rename_i el b i n c hs hd
    (split at hv; rotate_left; cases hv)
    rename_i hu
    have hue := u8_und hu
    cases hc : H.cellsN b i n with
    | none => simp [hc] at hv
    | some l =>
      simp only [hc] at hv
      cases hub : unbytes l with
      | none => simp [hub] at hv
      | some s =>
        simp [hub] at hv
        obtain ⟨rfl, _⟩ := hv
        by_cases hn0 : n = 0
        · obtain ⟨a, c', hr, _⟩ := sl_some h1
          subst hn0
          have hl0 : l = [] := cellsN_zero hc
          subst hl0
          simp [unbytes] at hub
          subst hub
          refine Owes.same hT (r := .string ⟨⟨[]⟩⟩) ?_ (by simp [Rn])
          cases a with
          | none =>
            simp only [execOp, ho, hr, Sem.run_bind, run_convert_bytes_nil w s el hs hue 0 c' d hd, Result.andThen_ok, Sem.run_pure]
            rfl
          | some a =>
            have h4 := run_bytesToString (P := P) w a 0 c' [] (by simp [loadCells, loadCellsFrom])
            simp only [execOp, ho, hr, Sem.run_bind, run_convert_bytes_string w s d el _ _ _ hs hue hd, h4, Result.andThen_ok, Sem.run_pure]
            rfl
        · obtain ⟨en, c', hp, hr, _⟩ := sl_addr h1 (by omega)
          obtain ⟨hl, _, rs, hrl, hrn, hcell⟩ := hI.cellsN hc hp
          obtain ⟨ns, rfl, rfl⟩ := unbytes_rn hub hrn
          have h3 := run_loadCells' (P := P) ⟨en.blk, en.off + i, none⟩ w n _ hrl (fun j r hj => by rw [add_addr]; exact hcell j r hj)
          refine Owes.same hT (r := .string ⟨⟨ns.map fun n => UInt8.ofNat n.toNat⟩⟩) ?_ (by simp [Rn])
          have h4 := run_bytesToString w ⟨en.blk, en.off + i, none⟩ n c' ns h3
          have h5 := foldl_push ns []
          simp only [List.nil_append] at h5
          have h6 : (ByteArray.empty : ByteArray) = ⟨⟨[]⟩⟩ := rfl
          rw [h6, h5] at h4
          simp only [execOp, ho, hr, Sem.run_bind, run_convert_bytes_string w s d el _ _ _ hs hue hd, h4, Result.andThen_ok, Sem.run_pure]
  · cases hv

theorem sound_len (hI : Inv w0 p H w) (hT : Inv w0 p T w) (he : ∀ x v, e x = some v → Rn p v (ρ x)) {c : Call} (ho : o.op = .call c) (hc : c.callee = .builtin .len) {t : TypeId} (ht : c.argTypes[0]? = some t) {x : Operand} (ha : c.args.toList = [x]) {u : V} (hx : e x = some u) (hv : lenA P H t u = some v) : Owes P w0 p T w ρ o nb v := by
  have h1 := he x _ hx
  have harg : c.args = #[x] := by rw [← Array.toArray_toList (xs := c.args), ha]
  have hexec : ∀ r, (Builtin.len_ c.argTypes o.type #[ρ x]).run P w = .ok r w → (execOp ρ o).run P w = .ok (.value r) w := by
    intro r hr
    simp [execOp, ho, resolve, hc, harg, invoke, builtin, hr]
  unfold lenA at hv
  split at hv
  · rename_i s hu
    injection hv with hv; subst hv
    simp only [Rn] at h1
    exact Owes.same hT (hexec (.int .i64 s.length) (by simp [Builtin.len_, ht, und_run hu, h1, goInt]; rfl)) (by simp [Rn])
  · rename_i n el hu
    injection hv with hv; subst hv
    exact Owes.same hT (hexec (.int .i64 n) (by simp [Builtin.len_, ht, und_run hu, goInt])) (by simp [Rn])
  · rename_i el b i n c' hu
    injection hv with hv; subst hv
    obtain ⟨a, c2, hr, _⟩ := sl_some h1
    exact Owes.same hT (hexec (.int .i64 n) (by simp [Builtin.len_, ht, und_run hu, hr, goInt])) (by simp [Rn])
  · rename_i k el b hu
    cases hb : H[b]? with
    | none => simp [hb] at hv
    | some bl =>
      cases bl <;> simp [hb] at hv
      rename_i es
      subst hv
      simp only [Rn] at h1
      obtain ⟨en, hp, hr⟩ := h1
      have hbl := hI.blocks b en hp
      rw [hb] at hbl
      obtain ⟨rs, clk, h3, h4, _⟩ := hbl
      have hlen : rs.size = es.length := by
        have : ∀ {es : List (V × V)} {l : List MapEntry}, MapR p es l → l.length = es.length := by
          intro es
          induction es with
          | nil => intro l h; simp only [MapR] at h; subst h; rfl
          | cons a es ih =>
            intro l h
            obtain ⟨_, l', rfl, _, _, h⟩ := h
            simp [ih h]
        simpa using this h4
      have hgo : (getObj en.blk).run P w = .ok (.map rs clk) w := by simp [getObj, Sem.run, h3]
      exact Owes.same hT (hexec (.int .i64 es.length) (by simp [Builtin.len_, ht, und_run hu, hr, hgo, goInt, hlen])) (by simp [Rn])
  · rename_i k el hu
    injection hv with hv; subst hv
    simp only [Rn] at h1
    exact Owes.same hT (hexec (.int .i64 (0 : Nat)) (by simp [Builtin.len_, ht, und_run hu, h1, goInt])) (by simp [Rn])
  · cases hv

theorem foldMin_run (P : Program) (w : World) : ∀ {vs : List V} {k : IntKind} {x : Int} {rs : List Value}, foldMin k x vs = some v → RnL p vs rs → ∃ r, (rs.foldlM Builtin.min2 (.int k x)).run P w = .ok r w ∧ Rn p v r
  | [], k, x, rs, h, hr => by
    simp [foldMin] at h
    simp only [RnL] at hr
    subst h hr
    exact ⟨.int k x, by simp, by simp [Rn]⟩
  | u :: vs, k, x, rs, h, hr => by
    simp only [RnL] at hr
    obtain ⟨r, rs', rfl, h1, h2⟩ := hr
    cases u <;> simp only [foldMin] at h <;> try cases h
    split at h
    · rename_i hk
      subst hk
      simp only [Rn] at h1
      subst h1
      obtain ⟨r, h3, h4⟩ := foldMin_run P w h h2
      exact ⟨r, by simp [Builtin.min2, h3], h4⟩
    · cases h

theorem foldMax_run (P : Program) (w : World) : ∀ {vs : List V} {k : IntKind} {x : Int} {rs : List Value}, foldMax k x vs = some v → RnL p vs rs → ∃ r, (rs.foldlM Builtin.max2 (.int k x)).run P w = .ok r w ∧ Rn p v r
  | [], k, x, rs, h, hr => by
    simp [foldMax] at h
    simp only [RnL] at hr
    subst h hr
    exact ⟨.int k x, by simp, by simp [Rn]⟩
  | u :: vs, k, x, rs, h, hr => by
    simp only [RnL] at hr
    obtain ⟨r, rs', rfl, h1, h2⟩ := hr
    cases u <;> simp only [foldMax] at h <;> try cases h
    split at h
    · rename_i hk
      subst hk
      simp only [Rn] at h1
      subst h1
      obtain ⟨r, h3, h4⟩ := foldMax_run P w h h2
      exact ⟨r, by simp [Builtin.max2, h3], h4⟩
    · cases h

theorem sound_min (hT : Inv w0 p T w) (he : ∀ x v, e x = some v → Rn p v (ρ x)) {c : Call} (ho : o.op = .call c) (hc : c.callee = .builtin .min) {k : IntKind} {x : Int} {vs : List V} (ha : evL e c.args.toList = some (.int k x :: vs)) (hv : foldMin k x vs = some v) : Owes P w0 p T w ρ o nb v := by
  have h1 := evL_rn he ha
  simp only [RnL] at h1
  obtain ⟨r, rs, hl, h2, h3⟩ := h1
  obtain ⟨r', h4, h5⟩ := foldMin_run P w hv h3
  simp only [Rn] at h2
  refine Owes.same hT (r := r') ?_ h5
  simp [execOp, ho, resolve, hc, invoke, builtin, Builtin.min_, hl, h2, h4]

theorem sound_max (hT : Inv w0 p T w) (he : ∀ x v, e x = some v → Rn p v (ρ x)) {c : Call} (ho : o.op = .call c) (hc : c.callee = .builtin .max) {k : IntKind} {x : Int} {vs : List V} (ha : evL e c.args.toList = some (.int k x :: vs)) (hv : foldMax k x vs = some v) : Owes P w0 p T w ρ o nb v := by
  have h1 := evL_rn he ha
  simp only [RnL] at h1
  obtain ⟨r, rs, hl, h2, h3⟩ := h1
  obtain ⟨r', h4, h5⟩ := foldMax_run P w hv h3
  simp only [Rn] at h2
  refine Owes.same hT (r := r') ?_ h5
  simp [execOp, ho, resolve, hc, invoke, builtin, Builtin.max_, hl, h2, h4]

end
end Go.Proofs.YtpjkammmoaeheaaDoor.Aw

/- The model yields what 'fop' says: maps, what is made of parts; and all of 'fop'. -/
set_option linter.unusedSimpArgs false
set_option linter.unusedVariables false
namespace Go.Proofs.YtpjkammmoaeheaaDoor.Aw
open Go Go.RowKit

section
variable {P : Program} {w0 w : World} {p : PMap} {H T : AH} {e : Operand → Option V} {ρ : Operand → Value} {o : Oper} {nb : Nat} {v : V} {ob : Option Blk}

theorem Rn.cells' {v : V} {r : Value} (h : Rn p v r) : RnL p v.cells r.cells.toList := by
  have one : r.cells = #[r] → v.cells = [v] → RnL p v.cells r.cells.toList := by
    intro h1 h2
    rw [h1, h2]
    simp only [RnL]
    exact ⟨r, [], rfl, h, rfl⟩
  by_cases h1 : v.one = true
  · refine one ?_ ?_
    · have := h.one h1
      cases r <;> first | rfl | (simp [Value.oneCell'] at this)
    · cases v <;> first | rfl | (simp [V.one] at h1)
  · cases v <;> simp only [V.one, not_true_eq_false] at h1
    · simp only [Rn] at h
      obtain ⟨rs, rfl, h⟩ := h
      exact h
    · refine one ?_ rfl
      simp only [Rn] at h
      obtain ⟨rs, rfl, h⟩ := h
      rfl

theorem putL_get {α : Type} : ∀ (vs : List α) (i : Nat) (cs : List α) (j : Nat), i + cs.length ≤ vs.length → (putL vs i cs)[j]? = if i ≤ j ∧ j < i + cs.length then cs[j - i]? else vs[j]?
  | vs, i, [], j, _ => by simp only [putL, List.length_nil, Nat.add_zero]; rw [if_neg (by omega)]
  | vs, i, c :: r, j, h => by
    simp only [List.length_cons] at h
    rw [putL, putL_get (vs.set i c) (i + 1) r j (by simp; omega)]
    by_cases hj : i = j
    · subst hj
      rw [if_neg (by omega), if_pos (by simp), Nat.sub_self, List.getElem?_set_self (by omega)]
      rfl
    · by_cases h2 : i + 1 ≤ j ∧ j < i + 1 + r.length
      · rw [if_pos h2, if_pos (by simp only [List.length_cons]; omega)]
        rw [show j - i = (j - (i + 1)) + 1 by omega]
        simp
      · rw [if_neg h2, if_neg (by simp only [List.length_cons]; omega)]
        rw [List.getElem?_set_ne hj]

theorem RnL.putL {vs cs : List V} {rs ds : List Value} (h : RnL p vs rs) (k : RnL p cs ds) {i : Nat} (hi : i + cs.length ≤ vs.length) : RnL p (putL vs i cs) (Aw.putL rs i ds) := by
  refine RnL.of_get (by rw [putL_length, putL_length, h.length]) fun j v r hv hr => ?_
  rw [putL_get _ _ _ _ hi] at hv
  rw [putL_get _ _ _ _ (by rw [k.length, h.length]; exact hi), k.length] at hr
  by_cases hj : i ≤ j ∧ j < i + cs.length
  · rw [if_pos hj] at hv hr
    obtain ⟨r', h1, h2⟩ := k.get _ _ hv
    rw [h1] at hr
    injection hr with hr
    exact hr ▸ h2
  · rw [if_neg hj] at hv hr
    obtain ⟨r', h1, h2⟩ := h.get _ _ hv
    rw [h1] at hr
    injection hr with hr
    exact hr ▸ h2

theorem foldl_putL : ∀ (cs : List Value) (k off : Nat) (arr : Array Value), ((cs.zipIdx k).foldl (fun (a : Array Value) (x : Value × Nat) => a.setIfInBounds (off + x.2) x.1) arr).toList = putL arr.toList (off + k) cs
  | [], _, _, _ => rfl
  | c :: cs, k, off, arr => by
    rw [List.zipIdx_cons, List.foldl_cons, foldl_putL cs (k + 1) off, putL]
    simp [Nat.add_assoc]

theorem fill_run {place place' : Nat → Option (Nat × Nat)} (hpl : ∀ i x, place i = some x → place' i = some x) : ∀ {l : List (Nat × V)} {rl : List (Nat × Value)} {vs us : List V} {cs : Array Value},
    putAll place vs l = some us → rl.map (·.1) = l.map (·.1) → RnL p (l.map (·.2)) (rl.map (·.2)) → RnL p vs cs.toList → ∃ ds, Instr.fill place' cs rl = some ds ∧ RnL p us ds.toList
  | [], rl, vs, us, cs, h, h1, h2, h3 => by
    have : rl = [] := by simpa using h1
    subst this
    simp [putAll] at h
    subst h
    exact ⟨cs, rfl, h3⟩
  | (i, v) :: l, rl, vs, us, cs, h, h1, h2, h3 => by
    cases rl with
    | nil => simp at h1
    | cons x rl =>
      obtain ⟨i', r⟩ := x
      simp only [List.map_cons, List.cons.injEq] at h1
      obtain ⟨rfl, h1⟩ := h1
      simp only [List.map_cons, RnL] at h2
      obtain ⟨r', rs', heq, h4, h5⟩ := h2
      simp only [List.cons.injEq] at heq
      obtain ⟨rfl, rfl⟩ := heq
      simp only [putAll] at h
      cases hp : place i' with
      | none => simp [hp] at h
      | some x =>
        obtain ⟨off, sz⟩ := x
        simp only [hp] at h
        (split at h; rotate_left; cases h)
        rename_i hc
        have hcells := h4.cells'
        have hl1 : r.cells.size = sz := by have := hcells.length; simp at this; omega
        have hl2 : cs.size = vs.length := by have := h3.length; simpa using this
        have hfold : (r.cells.zipIdx.foldl (fun (cs : Array Value) (x : Value × Nat) => cs.setIfInBounds (off + x.2) x.1) cs).toList = putL cs.toList off r.cells.toList := by
          rw [← Array.foldl_toList, Array.toList_zipIdx, foldl_putL]
          simp
        obtain ⟨ds, h6, h7⟩ := fill_run hpl (cs := r.cells.zipIdx.foldl (fun (cs : Array Value) (x : Value × Nat) => cs.setIfInBounds (off + x.2) x.1) cs) h h1 h5 (by rw [hfold]; exact h3.putL hcells (by rw [hc.1]; exact hc.2))
        refine ⟨ds, ?_, h7⟩
        simp only [Instr.fill, hpl _ _ hp]
        rw [if_neg (by simp; omega)]
        exact h6

theorem parts_rn (he : ∀ x v, e x = some v → Rn p v (ρ x)) : ∀ {ps : List (Nat × Operand)} {l : List (Nat × V)}, parts e ps = some l → (ps.map fun x => (x.1, ρ x.2)).map (·.1) = l.map (·.1) ∧ RnL p (l.map (·.2)) ((ps.map fun x => (x.1, ρ x.2)).map (·.2))
  | [], l, h => by simp [parts] at h; subst h; simp [RnL]
  | (i, x) :: ps, l, h => by
    simp only [parts] at h
    split at h
    · rename_i v l' h1 h2
      injection h with h
      subst h
      obtain ⟨h3, h4⟩ := parts_rn he h2
      refine ⟨by simp only [List.map_cons, List.cons.injEq, true_and]; exact h3, ?_⟩
      simp only [List.map_cons, RnL]
      exact ⟨_, _, rfl, he x v h1, h4⟩
    · cases h

theorem fields_run (P : Program) (w : World) : ∀ {fs : List Field}, fieldsOk P fs = true → (fs.mapM fun (f : Field) => do pure (f.offset, ← sizeOf f.type) : Sem (List (Nat × Nat))).run P w = .ok (fs.map fun (f : Field) => (f.offset, (tsize P f.type).getD 0)) w
  | [], _ => by simp
  | f :: fs, h => by
    simp only [fieldsOk, Bool.and_eq_true] at h
    cases hs : tsize P f.type with
    | none => simp [hs] at h
    | some n =>
      have ih := fields_run P w h.2
      simp only [List.mapM_cons, Sem.run_bind, tsize_run hs, Result.andThen_ok, Sem.run_pure, ih, List.map_cons, hs, Option.getD_some]

theorem sound_build (hT : Inv w0 p T w) (he : ∀ x v, e x = some v → Rn p v (ρ x)) {t : TypeId} {ps : Array (Nat × Operand)} (ho : o.op = .build t ps) (hv : buildA P e t ps.toList = some v) : Owes P w0 p T w ρ o nb v := by
  unfold buildA at hv
  split at hv
  · rename_i z l hz hl
    obtain ⟨r, hr, hvz⟩ := tzero_run hz
    obtain ⟨h1, h2⟩ := parts_rn he hl
    have hzr : RnL p z.cells r.cells.toList := (vOf_rn p hvz).cells'
    split at hv
    · rename_i fs hu
      (split at hv; rotate_left; cases hv)
      rename_i hf
      simp only [Option.map_eq_some_iff] at hv
      obtain ⟨us, hus, rfl⟩ := hv
      have hpl : ∀ (i : Nat) (x : Nat × Nat), (match fs.toList[i]? with | some (f : Field) => some (f.offset, (tsize P f.type).getD 0) | none => none) = some x → (Array.map (fun (f : Field) => (f.offset, (tsize P f.type).getD 0)) fs)[i]? = some x := by
        intro i x hx
        rw [Array.getElem?_map]
        rw [Array.getElem?_toList] at hx
        cases hi : fs[i]? with
        | none => simp [hi] at hx
        | some f => simpa [hi] using hx
      obtain ⟨ds, h3, h4⟩ := fill_run hpl hus h1 h2 hzr
      have hm : (fs.mapM fun (f : Field) => do pure (f.offset, ← sizeOf f.type) : Sem (Array (Nat × Nat))).run P w = .ok (fs.map fun (f : Field) => (f.offset, (tsize P f.type).getD 0)) w := by
        rw [Array.mapM_eq_mapM_toList]
        simp only [Sem.run_map, fields_run P w hf, Result.andThen_ok]
        rw [← Array.toList_map, Array.toArray_toList]
      refine Owes.same hT (r := .agg ds) ?_ (by simp only [Rn]; exact ⟨ds.toList, by simp, h4⟩)
      simp only [execOp, ho, Instr.build, Sem.run_bind, hr, und_run hu, Result.andThen_ok, hm, Array.toList_map, h3, Sem.run_pure]
    · rename_i n el hu
      cases hs : tsize P el with
      | none => simp [hs] at hv
      | some sz =>
        simp only [hs, Option.map_eq_some_iff] at hv
        obtain ⟨us, hus, rfl⟩ := hv
        obtain ⟨ds, h3, h4⟩ := fill_run (place' := fun i => some (i * sz, sz)) (fun _ _ h => h) hus h1 h2 hzr
        refine Owes.same hT (r := .agg ds) ?_ (by simp only [Rn]; exact ⟨ds.toList, by simp, h4⟩)
        simp only [execOp, ho, Instr.build, Sem.run_bind, hr, und_run hu, Result.andThen_ok, tsize_run hs, Array.toList_map, h3, Sem.run_pure]
    · cases hv
  · cases hv

theorem rep_length (n : Nat) (zs : List V) : (rep n zs).length = n * zs.length := by simp [rep]

theorem flat_get {α : Type} (zs : List α) : ∀ (n i : Nat), i < n * zs.length → ((List.replicate n zs).flatten)[i]? = zs[i % zs.length]?
  | 0, i, h => by simp at h
  | n + 1, i, h => by
    rw [List.replicate_succ, List.flatten_cons]
    by_cases hi : i < zs.length
    · rw [List.getElem?_append_left hi, Nat.mod_eq_of_lt hi]
    · rw [List.getElem?_append_right (by omega), flat_get zs n (i - zs.length) (by rw [Nat.add_mul] at h; omega)]
      congr 1
      rw [← Nat.mod_eq_sub_mod (by omega)]

theorem rep_rn {zs : List V} {rs : List Value} (h : RnL p zs rs) (n : Nat) : RnL p (rep n zs) ((List.replicate n rs).flatten) := by
  induction n with
  | zero => simp [rep, RnL]
  | succ n ih =>
    simp only [rep, List.replicate_succ, List.flatten_cons] at ih ⊢
    exact h.append ih

theorem made_toList (z : Array Value) (n : Nat) (hz : 0 < z.size) : ((Array.range (n * z.size)).map (z[· % z.size]!)).toList = (List.replicate n z.toList).flatten := by
  apply List.ext_getElem?
  intro i
  rw [Array.getElem?_toList, Array.getElem?_map]
  by_cases hi : i < n * z.size
  · have hm : i % z.size < z.size := Nat.mod_lt _ hz
    rw [flat_get _ _ _ (by simpa using hi)]
    simp [hi, hm]
  · rw [Array.getElem?_eq_none (by simpa using hi), List.getElem?_eq_none (by simpa using hi)]
    rfl

theorem all_rep {n : Nat} {zs : List V} (h : zs.all V.one = true) : ∀ v ∈ rep n zs, v.one = true := by
  intro v hv
  simp only [rep, List.mem_flatten] at hv
  obtain ⟨l, hl, hv⟩ := hv
  rw [(List.mem_replicate.1 hl).2] at hv
  exact List.all_eq_true.1 h v hv

theorem sound_makeSlice (hT : Inv w0 p T w) (hn : p nb = none) (he : ∀ x v, e x = some v → Rn p v (ρ x)) {t : TypeId} {l c : Operand} (ho : o.op = .makeSlice t l c) {el : TypeId} (hu : P.underlying t = some (.slice el)) {n m : Int} (hl : e l = some (.int .i64 n)) (hc : e c = some (.int .i64 m))
    {sz : Nat} (hs : tsize P el = some sz) {z : V} (hz : tzero P el = some z) (h1 : z.cells.length = sz) (h2 : 0 < sz) (h3 : 0 ≤ n) (h4 : n ≤ m) (h5 : m * (tbytes P el : Int) ≤ 140737488355328) (h6 : m ≤ 140737488355328) (h7 : z.cells.all V.one = true)
    (hb : T[nb]? = some (.cells (rep m.toNat z.cells) false)) : Owes P w0 p T w ρ o nb (.sl nb 0 n.toNat (.ex m.toNat)) := by
  obtain ⟨i, r, hi, hiz, hvz⟩ : ∃ i r, P.info? el = some i ∧ i.zero = some r ∧ vOf r = some z := by
    unfold tzero at hz
    cases hi : P.info? el with
    | none => simp [hi] at hz
    | some i =>
      cases hzz : i.zero with
      | none => simp [hi, hzz] at hz
      | some r => exact ⟨i, r, rfl, hzz, by simpa [hi, hzz] using hz⟩
  have hsz : i.size = sz := by simpa [tsize, hi] using hs
  have hby : tbytes P el = i.bytes := by simp [tbytes, hi]
  have hzr : RnL p z.cells r.cells.toList := (vOf_rn p hvz).cells'
  have hrs : r.cells.size = sz := by have := hzr.length; simp at this; omega
  have hll := he l _ hl
  have hcc := he c _ hc
  simp only [Rn] at hll hcc
  have hrun := run_make (P := P) w t el i r hu hi hiz .i64 .i64 n m h3 h4 (by rw [Int.mul_comm]; rw [← hby]; omega) (by omega)
  have hlist : (madeCells r.cells (m.toNat * i.size)).toList = (List.replicate m.toNat r.cells.toList).flatten := by
    rw [hsz, ← hrs]
    exact made_toList r.cells m.toNat (by omega)
  have hrr := rep_rn hzr m.toNat
  rw [← hlist] at hrr
  refine Owes.row hT hn hrr (all_rep h7) hb (t := el) (r := .slice (some ⟨w.heap.size, 0, none⟩) n.toNat m.toNat) ?_ ?_
  · simp only [execOp, ho, hll, hcc, Sem.run_bind, hrun, Result.andThen_ok, Sem.run_pure]
  · simp only [Rn]
    refine .inr ⟨_, PMap.put_same _ _ _, ?_⟩
    simp only [slR]
    exact ⟨by omega, .inl (by simp)⟩

theorem sound_buildSlice (hT : Inv w0 p T w) (hn : p nb = none) (he : ∀ x v, e x = some v → Rn p v (ρ x)) {t : TypeId} {len : Nat} {ps : Array (Nat × Operand)} (ho : o.op = .buildSlice t len ps) {el : TypeId} (hu : P.underlying t = some (.slice el)) {l : List (Nat × V)} (hl : parts e ps.toList = some l)
    {sz : Nat} (hs : tsize P el = some sz) {z : V} (hz : tzero P el = some z) (h1 : z.cells.length = sz ∧ 0 < sz ∧ len * sz ≤ 16777216) {cs : List V} (hcs : putAll (fun i => some (i * sz, sz)) (rep len z.cells) l = some cs) (hone : cs.all V.one = true)
    (hb : T[nb]? = some (.cells cs false)) : Owes P w0 p T w ρ o nb (.sl nb 0 len (.ex len)) := by
  obtain ⟨r, hr, hvz⟩ := tzero_run hz
  have hzr : RnL p z.cells r.cells.toList := (vOf_rn p hvz).cells'
  have hrs : r.cells.size = sz := by have := hzr.length; simp at this; omega
  obtain ⟨h2, h3⟩ := parts_rn he hl
  have hlist : (if len * sz = 0 then (#[] : Array Value) else (Array.range (len * sz)).map (r.cells[· % r.cells.size]!)).toList = (List.replicate len r.cells.toList).flatten := by
    by_cases h0 : len * sz = 0
    · have : len = 0 := by rcases Nat.mul_eq_zero.1 h0 with h | h <;> omega
      subst this
      simp
    · rw [if_neg h0, ← hrs]
      exact made_toList r.cells len (by omega)
  have hrr := rep_rn hzr len
  obtain ⟨ds, h4, h5⟩ := fill_run (place' := fun i => some (i * sz, sz)) (fun _ _ h => h) (cs := (if len * sz = 0 then (#[] : Array Value) else (Array.range (len * sz)).map (r.cells[· % r.cells.size]!))) hcs h2 h3 (by rw [hlist]; exact hrr)
  refine Owes.row hT hn h5 (by simpa using hone) hb (t := el) (r := .slice (some ⟨w.heap.size, 0, none⟩) len len) ?_ ?_
  · have hlim : ¬ (len * sz > 2 ^ 24) := by omega
    by_cases h0 : len * sz = 0
    · rw [if_pos h0] at h4
      have hpos : len = 0 := by rcases Nat.mul_eq_zero.1 h0 with h | h <;> omega
      subst hpos
      simp only [execOp, ho, Instr.buildSlice, Sem.run_bind, und_run hu, Result.andThen_ok, tsize_run hs, hlim, if_false, h0, if_true, Sem.run_pure, Sem.run_ite, Nat.zero_mul, Array.range_zero', Array.map_empty, Array.toList_map, h4]
      simp [newRow]
    · rw [if_neg h0] at h4
      simp only [execOp, ho, Instr.buildSlice, Sem.run_bind, und_run hu, Result.andThen_ok, tsize_run hs, hlim, if_false, h0, hr, Sem.run_pure, Sem.run_ite, Array.toList_map, h4]
      simp [newRow]
  · simp only [Rn]
    refine .inr ⟨_, PMap.put_same _ _ _, ?_⟩
    simp only [slR]
    exact ⟨Nat.le_refl _, .inl (by simp)⟩

/-! ### maps -/
theorem getMap_run {b : Nat} {rs : Array MapEntry} {clk : Nat} (h : w.heap[b]? = some (.map rs clk)) : (getObj b).run P w = .ok (.map rs clk) w := by
  simp [getObj, Sem.run, h]

theorem checkKey_run {kt : TypeId} {k : V} {rk : Value} (h : kindOk P kt k = true) (hr : Rn p k rk) (empty : Bool) (n : Nat) : (Instr.checkKey empty (n + 1) kt rk).run P w = .ok () w := by
  unfold kindOk at h
  split at h
  · rename_i hu
    simp only [Rn] at hr
    subst hr
    simp [Instr.checkKey, und_run hu]
  · rename_i hu
    simp only [Rn] at hr
    subst hr
    simp [Instr.checkKey, und_run hu]
  · rename_i hu
    simp only [Rn] at hr
    subst hr
    simp [Instr.checkKey, und_run hu]
  · cases h

theorem bstr_beq (a b : List UInt8) : ((⟨⟨a⟩⟩ : ByteArray) == ⟨⟨b⟩⟩) = (a == b) := by
  rw [beq_toListBytes, toList_mk, toList_mk]

theorem findNow_run {kt : TypeId} {d : TypeDesc} (hd : P.underlying kt = some d) {k : V} {rk : Value} (h : kindOk P kt k = true) (hr : Rn p k rk) : ∀ {es : List (V × V)} {rs : List MapEntry} {i : Nat} {res : Option (Nat × V)}, MapR p es rs → findA k es i = some res →
    match res with
    | none => Instr.findNow d rk rs i = some none
    | some (j, v) => ∃ r, Instr.findNow d rk rs i = some (some (j, r)) ∧ Rn p v r
  | [], rs, i, res, hm, hf => by
    simp only [MapR] at hm
    subst hm
    simp [findA] at hf
    subst hf
    rfl
  | (x, v) :: es, rs, i, res, hm, hf => by
    obtain ⟨en, l', rfl, h1, h2, h3⟩ := hm
    have key : ∀ b, eqKey k x = some b → Instr.sameNow d rk en.key = some b := by
      intro b hb
      unfold kindOk at h
      rw [hd] at h
      unfold eqKey at hb
      split at hb <;> first | cases hb; done | skip
      · split at hb <;> first | cases hb; done | skip
        rename_i hk
        injection hb with hb
        subst hb hk
        simp only [Rn] at hr h1
        rw [hr, h1]
        split at h <;> first | cases h; done | skip
        all_goals rename_i h4 h5; first | cases h5; done | skip
        all_goals injection h4 with h4; subst h4; simp [Instr.sameNow]
      · injection hb with hb
        subst hb
        simp only [Rn] at hr h1
        rw [hr, h1]
        split at h <;> first | cases h; done | skip
        all_goals rename_i h4 h5; first | cases h5; done | skip
        all_goals injection h4 with h4; subst h4; simp [Instr.sameNow, bstr_beq]
      · injection hb with hb
        subst hb
        simp only [Rn] at hr h1
        rw [hr, h1]
        split at h <;> first | cases h; done | skip
        all_goals rename_i h4 h5; first | cases h5; done | skip
        all_goals injection h4 with h4; subst h4; simp [Instr.sameNow]
    simp only [findA] at hf
    cases hb : eqKey k x with
    | none => simp [hb] at hf
    | some b =>
      have hs := key b hb
      cases b with
      | true =>
        simp only [hb, Option.some.injEq] at hf
        subst hf
        exact ⟨en.val, by simp [Instr.findNow, hs], h2⟩
      | false =>
        simp only [hb] at hf
        have ih := findNow_run hd h hr h3 hf
        simp only [Instr.findNow, hs]
        exact ih

theorem sound_lookup (hI : Inv w0 p H w) (hT : Inv w0 p T w) (he : ∀ x v, e x = some v → Rn p v (ρ x)) {t : TypeId} {m k : Operand} {ok : Bool} (ho : o.op = .lookup t m k ok) {mv kv : V} (hm : e m = some mv) (hk : e k = some kv) (hv : lookupA P H t mv kv ok = some v) : Owes P w0 p T w ρ o nb v := by
  have h1 := he m _ hm
  have h2 := he k _ hk
  unfold lookupA at hv
  split at hv
  · rename_i kt el b hu
    split at hv
    · rename_i es hb
      (split at hv; rotate_left; cases hv)
      rename_i hko
      simp only [Rn] at h1
      obtain ⟨en, hp, hr⟩ := h1
      have hbl := hI.blocks b en hp
      rw [hb] at hbl
      obtain ⟨rs, clk, h3, h4, _⟩ := hbl
      obtain ⟨d, hd⟩ : ∃ d, P.underlying kt = some d := by
        unfold kindOk at hko
        cases hd : P.underlying kt with
        | none => simp [hd] at hko
        | some d => exact ⟨d, rfl⟩
      have hck := checkKey_run (P := P) (w := w) hko h2 rs.isEmpty 9999
      split at hv
      · rename_i x2 j v' hfa
        have hfn := findNow_run hd hko h2 h4 hfa
        obtain ⟨r, h5, h6⟩ := hfn
        injection hv with hv
        have hfk : (Instr.findKey kt (ρ k) rs.toList).run P w = .ok (some (j, r)) w := by simp [Instr.findKey, und_run hd, h5]
        have hrun : (execOp ρ o).run P w = .ok (.value (if ok then .tuple #[r, .bool true] else r)) w := by
          simp only [execOp, ho, Instr.lookup, Sem.run_bind, und_run hu, Result.andThen_ok, hr, getMap_run h3, Sem.run_pure]
          rw [hck]
          simp only [Result.andThen_ok, hfk, Sem.run_pure]
          rfl
        refine Owes.same hT hrun ?_
        subst hv
        cases ok
        · exact h6
        · simp only [if_true, Rn]
          exact ⟨[r, .bool true], rfl, by simp only [RnL]; exact ⟨r, _, rfl, h6, _, _, rfl, by simp [Rn], rfl⟩⟩
      · rename_i z hfa hz
        have hfn := findNow_run hd hko h2 h4 hfa
        simp only at hfn
        injection hv with hv
        obtain ⟨r, hzr, hvz⟩ := tzero_run hz
        have hfk : (Instr.findKey kt (ρ k) rs.toList).run P w = .ok none w := by simp [Instr.findKey, und_run hd, hfn]
        have hrun : (execOp ρ o).run P w = .ok (.value (if ok then .tuple #[r, .bool false] else r)) w := by
          simp only [execOp, ho, Instr.lookup, Sem.run_bind, und_run hu, Result.andThen_ok, hr, getMap_run h3, Sem.run_pure]
          rw [hck]
          simp only [Result.andThen_ok, hfk, Sem.run_pure, hzr, Sem.run_bind]
        refine Owes.same hT hrun ?_
        subst hv
        cases ok
        · exact vOf_rn p hvz
        · simp only [if_true, Rn]
          exact ⟨[r, .bool false], rfl, by simp only [RnL]; exact ⟨r, _, rfl, vOf_rn p hvz, _, _, rfl, by simp [Rn], rfl⟩⟩
      · cases hv
    · cases hv
  · cases hv

/-- ALL OF 'fop'. -/
theorem fop_sound (hI : Inv w0 p H w) (hT : Inv w0 p T w) (he : ∀ x v, e x = some v → Rn p v (ρ x)) (hn : p nb = none) (hf : fop P e H nb o.op = some (v, ob)) (hb : ∀ b, ob = some b → T[nb]? = some b) : Owes P w0 p T w ρ o nb v := by
  generalize ho : o.op = op at hf
  cases op <;> simp only [fop] at hf
  case move x =>
    cases hx : e x <;> simp [hx] at hf
    obtain ⟨rfl, _⟩ := hf
    exact sound_move hT he (.inl ho) hx
  case assign x =>
    cases hx : e x <;> simp [hx] at hf
    obtain ⟨rfl, _⟩ := hf
    exact sound_move hT he (.inr ho) hx
  case pick c a b =>
    split at hf
    · rename_i t hc
      refine sound_pick hT he ho hc ?_
      cases t
      · cases hx : e b <;> simp [hx] at hf ⊢
        exact hf.1
      · cases hx : e a <;> simp [hx] at hf ⊢
        exact hf.1
    · cases hf
  case alloc t =>
    cases hz : tzero P t with
    | none => simp [hz] at hf
    | some z =>
      simp only [hz] at hf
      (split at hf; rotate_left; cases hf)
      rename_i hone
      simp only [Option.some.injEq, Prod.mk.injEq] at hf
      obtain ⟨rfl, rfl⟩ := hf
      exact sound_alloc hT hn ho hz hone (hb _ rfl)
  case box t x =>
    cases hx : e x with
    | none => simp [hx] at hf
    | some z =>
      simp only [hx] at hf
      (split at hf; rotate_left; cases hf)
      rename_i hone
      simp only [Option.some.injEq, Prod.mk.injEq] at hf
      obtain ⟨rfl, rfl⟩ := hf
      exact sound_box hT he hn ho hx hone (hb _ rfl)
  case build t ps =>
    cases hx : buildA P e t ps.toList <;> simp [hx] at hf
    obtain ⟨rfl, _⟩ := hf
    exact sound_build hT he ho hx
  case buildSlice t len ps =>
    split at hf
    · rename_i el l hu hl
      split at hf
      · rename_i sz z hs hz
        (split at hf; rotate_left; cases hf)
        rename_i hc
        split at hf
        · rename_i cs hcs
          (split at hf; rotate_left; cases hf)
          rename_i hone
          simp only [Option.some.injEq, Prod.mk.injEq] at hf
          obtain ⟨rfl, rfl⟩ := hf
          exact sound_buildSlice hT hn he ho hu hl hs hz hc hcs hone (hb _ rfl)
        · cases hf
      · cases hf
    · cases hf
  case load t a =>
    split at hf
    · rename_i b i ha
      (split at hf; rotate_left; cases hf)
      rename_i ht
      split at hf
      · rename_i hg
        split at hf
        · rename_i n hs
          cases hc : AH.cellsN H b i n <;> simp [hc] at hf
          obtain ⟨rfl, _⟩ := hf
          exact sound_loadN hI hT he ho ha ht hg hs hc
        · cases hf
      · rename_i hg
        cases hc : AH.cell H b i <;> simp [hc] at hf
        obtain ⟨rfl, _⟩ := hf
        exact sound_load1 hI hT he ho ha ht (by simpa using hg) hc
    · cases hf
  case nilCheck x =>
    split at hf
    · rename_i b i hx
      simp only [Option.some.injEq, Prod.mk.injEq] at hf
      obtain ⟨rfl, _⟩ := hf
      exact sound_nilCheck hT he ho hx (.inl ⟨_, _, rfl⟩)
    · rename_i f a c hx
      simp only [Option.some.injEq, Prod.mk.injEq] at hf
      obtain ⟨rfl, _⟩ := hf
      exact sound_nilCheck hT he ho hx (.inr ⟨_, _, _, rfl⟩)
    · cases hf
  case binOp op t x y t' =>
    split at hf
    · rename_i a b hx hy
      cases hv : binA P op t a b <;> simp [hv] at hf
      obtain ⟨rfl, _⟩ := hf
      exact sound_binOp hT he ho hx hy hv
    · cases hf
  case unOp op t x =>
    split at hf
    · rename_i a hx
      cases hv : unA op a <;> simp [hv] at hf
      obtain ⟨rfl, _⟩ := hf
      exact sound_unOp hT he ho hx hv
    · cases hf
  case convert s d x =>
    split at hf
    · rename_i a hx
      exact sound_convert hI hT hn he ho hx hf hb
    · cases hf
  case makeInterface t x =>
    split at hf
    · cases hf
    · rename_i v' d hni hx hu
      simp only [Option.some.injEq, Prod.mk.injEq] at hf
      obtain ⟨rfl, _⟩ := hf
      exact sound_makeInterface hT he ho hx hu (fun m hm => hni m hm)
    · cases hf
  case makeFunc fn first cap =>
    split at hf
    · rename_i f a c h1 h2
      simp only [Option.some.injEq, Prod.mk.injEq] at hf
      obtain ⟨rfl, _⟩ := hf
      exact sound_makeFunc hT he ho h1 h2
    · cases hf
  case makeMap t x =>
    cases x with
    | none =>
      simp only [fop, Option.some.injEq, Prod.mk.injEq] at hf
      obtain ⟨rfl, rfl⟩ := hf
      exact sound_makeMap hT hn (hb _ rfl) ho (fun y hy => by cases hy)
    | some x =>
      simp only [fop] at hf
      split at hf
      · rename_i k el kk n hu hx
        simp only [Option.some.injEq, Prod.mk.injEq] at hf
        obtain ⟨rfl, rfl⟩ := hf
        have := he x _ hx
        simp only [Rn] at this
        exact sound_makeMap hT hn (hb _ rfl) ho (fun y hy => by injection hy with hy; subst hy; exact ⟨⟨k, el, hu⟩, kk, n, this⟩)
      · cases hf
  case makeSlice t l c =>
    split at hf
    · rename_i el n m hu hl hc
      split at hf
      · rename_i sz z hs hz
        (split at hf; rotate_left; cases hf)
        rename_i hh
        simp only [Option.some.injEq, Prod.mk.injEq] at hf
        obtain ⟨rfl, rfl⟩ := hf
        obtain ⟨h1, h2, h3, h4, h5, h6, h7⟩ := hh
        exact sound_makeSlice hT hn he ho hu hl hc hs hz h1 h2 h3 h4 h5 h6 h7 (hb _ rfl)
      · cases hf
    · cases hf
  case slice t x lo hi mx =>
    split at hf
    · rename_i a l h m hx hl hh hm
      cases hv : sliceA P t a l h m <;> simp [hv] at hf
      obtain ⟨rfl, _⟩ := hf
      exact sound_slice hT he ho hx hl hh hm hv
    · cases hf
  case fieldAddr s x f =>
    split at hf
    · rename_i fs b i hu hx
      split at hf
      · rename_i fl hfl
        split at hf
        · rename_i n hs
          simp only [Option.some.injEq, Prod.mk.injEq] at hf
          obtain ⟨rfl, _⟩ := hf
          exact sound_fieldAddr hT he ho hu hx hfl hs
        · cases hf
      · cases hf
    · cases hf
  case field s x f =>
    split at hf
    · rename_i fs cs hu hx
      split at hf
      · rename_i fl hfl
        cases hv : partA P fl.type cs fl.offset <;> simp [hv] at hf
        obtain ⟨rfl, _⟩ := hf
        exact sound_field hT he ho hu hx hfl hv
      · cases hf
    · cases hf
  case indexAddr t x ix =>
    split at hf
    · rename_i a kk k hx hi
      cases hv : idxA P t a k <;> simp [hv] at hf
      obtain ⟨rfl, _⟩ := hf
      exact sound_indexAddr hT he ho hx hi hv
    · cases hf
  case index t x ix =>
    split at hf
    · rename_i a kk k hx hi
      cases hv : indexA P t a k <;> simp [hv] at hf
      obtain ⟨rfl, _⟩ := hf
      exact sound_index hT he ho hx hi hv
    · cases hf
  case lookup t m k ok =>
    split at hf
    · rename_i mv kv hm hk
      cases hv : lookupA P H t mv kv ok <;> simp [hv] at hf
      obtain ⟨rfl, _⟩ := hf
      exact sound_lookup hI hT he ho hm hk hv
    · cases hf
  case extract x k =>
    split at hf
    · rename_i vs hx
      cases hv : vs[k]? <;> simp [hv] at hf
      obtain ⟨rfl, _⟩ := hf
      exact sound_extract hT he ho hx hv
    · cases hf
  case call c =>
    split at hf
    · rename_i hc
      split at hf
      · rename_i t x ht ha
        cases hv : lenA P H t x <;> simp [hv] at hf
        obtain ⟨rfl, _⟩ := hf
        generalize hargs : c.args.toList = args at ha
        cases args with
        | nil => simp [evL] at ha
        | cons y r =>
          simp only [evL] at ha
          split at ha
          · rename_i a l h1 h2
            simp only [Option.some.injEq, List.cons.injEq] at ha
            obtain ⟨rfl, rfl⟩ := ha
            cases r with
            | nil => exact sound_len hI hT he ho hc ht hargs h1 hv
            | cons z r =>
              simp only [evL] at h2
              split at h2 <;> simp at h2
          · cases ha
      · cases hf
    · rename_i hc
      split at hf
      · rename_i k x r ha
        cases hv : foldMin k x r <;> simp [hv] at hf
        obtain ⟨rfl, _⟩ := hf
        exact sound_min hT he ho hc ha hv
      · cases hf
    · rename_i hc
      split at hf
      · rename_i k x r ha
        cases hv : foldMax k x r <;> simp [hv] at hf
        obtain ⟨rfl, _⟩ := hf
        exact sound_max hT he ho hc ha hv
      · cases hf
    · cases hf
  all_goals cases hf

end
end Go.Proofs.YtpjkammmoaeheaaDoor.Aw

/- Operations that write: stores, maps, append; calls by contract. -/
set_option linter.unusedSimpArgs false
set_option linter.unusedVariables false
namespace Go.Proofs.YtpjkammmoaeheaaDoor.Aw
open Go Go.RowKit

/-- A contract of a function over the abstract heap. -/
def CallsA (P : Program) (f : FuncId) (args : List V) (H : AH) (R : V → AH → Prop) : Prop :=
  ∀ (w0 : World) (p : PMap) (w : World) (rs : List Value), Inv w0 p H w → RnL p args rs →
    ((callFunc f (List.toArray rs)).run P w = .ok (.enter f (List.toArray rs)) w ∧
      Calls P f (List.toArray rs) w fun e w' => ∃ p' H' v r, p.le p' ∧ ((∀ b, b < H.length → p b = none → p' b = none) ∧ H.length ≤ H'.length) ∧ Inv w0 p' H' w' ∧ R v H' ∧ Rn p' v r ∧ e = .returned r) ∨
    (∃ v r, (callFunc f (List.toArray rs)).run P w = .ok (.value r) w ∧ R v H ∧ Rn p v r)

theorem CallsA.mono {P : Program} {f : FuncId} {args : List V} {H : AH} {R R' : V → AH → Prop} (h : CallsA P f args H R) (hr : ∀ v H', R v H' → R' v H') : CallsA P f args H R' := by
  intro w0 p w rs hI ha
  rcases h w0 p w rs hI ha with ⟨h1, h2⟩ | ⟨v, r, h1, h2, h3⟩
  · refine .inl ⟨h1, h2.mono ?_⟩
    rintro e w' ⟨p', H', v, r, a1, a2, a3, a4, a5, a6⟩
    exact ⟨p', H', v, r, a1, a2, a3, hr _ _ a4, a5, a6⟩
  · exact .inr ⟨v, r, h1, hr _ _ h2, h3⟩

def blen (H : AH) (b : Nat) : Nat :=
  match H[b]? with
  | some (.cells vs false) => vs.length
  | _ => 0

def isRw (H : AH) (b : Nat) : Bool :=
  match H[b]? with
  | some (.cells _ false) => true
  | _ => false

def srcA (P : Program) (H : AH) (sz : Nat) (xt : TypeId) (x : V) : Option (Nat × List V) :=
  match P.underlying xt, x with
  | some (.slice _), .sl b i m _ => (H.cellsN b i (m * sz)).map (m, ·)
  | some .string, .str s => if sz = 1 then some (s.length, s.map byteV) else none
  | _, _ => none

def growA (H : AH) (sz bytes : Nat) (b i n m : Nat) (news : List V) (kill : Bool) : Option (V × AH) :=
  match H.cellsN b i (n * sz) with
  | some olds => if (n + m) * bytes ≤ 140737488355328 ∧ n + m ≤ 140737488355328 ∧ (kill = true → isRw H b = true) then
      some (.sl H.length 0 (n + m) (.toEnd sz), (if kill then H.set b .dead else H) ++ [.cells (olds ++ news) false])
    else none
  | none => none

def apA (P : Program) (H : AH) (t xt : TypeId) (s x : V) : Option (V × AH) :=
  match P.underlying t with
  | some (.slice el) =>
    match tsize P el, tzero P el with
    | some sz, some z =>
      if 0 < sz ∧ z.cells.length = sz then
        match srcA P H sz xt x with
        | some (m, news) =>
          match s with
          | .sl b i n c =>
            if m = 0 then some (.sl b i n c, H) else
            match c with
            | .nil => growA H sz (tbytes P el) b i n m news false
            | .ex k => if n + m ≤ k then (H.setN b (i + n * sz) news).map (.sl b i (n + m) (.ex k), ·) else growA H sz (tbytes P el) b i n m news false
            | .toEnd z' => if z' = sz then
                if i + (n + m) * sz ≤ blen H b then (H.setN b (i + n * sz) news).map (.sl b i (n + m) (.toEnd sz), ·) else growA H sz (tbytes P el) b i n m news true
              else none
          | _ => none
        | none => none
      else none
    | _, _ => none
  | _ => none

def updA (k v : V) : List (V × V) → Option (List (V × V))
  | [] => some [(k, v)]
  | (x, y) :: r => match eqKey k x with
    | some true => some ((k, v) :: r)
    | some false => (updA k v r).map ((x, y) :: ·)
    | none => none

def mapA (P : Program) (H : AH) (t : TypeId) (m k v : V) : Option AH :=
  match P.underlying t, m with
  | some (.map kt _), .map b =>
    match H[b]? with
    | some (.mp es) => if kindOk P kt k then (updA k v es).map fun es' => H.set b (.mp es') else none
    | _ => none
  | _, _ => none

def eop (P : Program) (e : Operand → Option V) (o : Op) (H : AH) (K : Option V → AH → Prop) : Prop :=
  match o with
  | .store t a x =>
    match e a, e x, tsize P t with
    | some (.ptr b i), some v, some n =>
      if v.cells.length = n ∧ v.cells.all V.one then
        match H.setN b i v.cells with
        | some H' => K none H'
        | none => False
      else False
    | _, _, _ => False
  | .mapUpdate t m k x =>
    match e m, e k, e x with
    | some mv, some kv, some xv => match mapA P H t mv kv xv with
      | some H' => K none H'
      | none => False
    | _, _, _ => False
  | .insert t m k x =>
    match e m, e k, e x with
    | some mv, some kv, some xv => match mapA P H t mv kv xv with
      | some H' => K none H'
      | none => False
    | _, _, _ => False
  | .call c =>
    match c.callee with
    | .value f =>
      match e f, evL e c.args.toList with
      | some (.fn g first cap), some vs => CallsA P g (first ++ vs ++ cap) H fun v H' => K (some v) H'
      | _, _ => False
    | .builtin .append =>
      match c.argTypes.toList, evL e c.args.toList with
      | [t, xt], some [s, x] => match apA P H t xt s x with
        | some (v, H') => K (some v) H'
        | none => False
      | _, _ => False
    | _ => False
  | _ => False

/-- Which operations 'eop' is for. -/
def isEff : Op → Bool
  | .store _ _ _ => true
  | .mapUpdate _ _ _ _ => true
  | .insert _ _ _ _ => true
  | .call c => match c.callee with
    | .value _ => true
    | .builtin .append => true
    | _ => false
  | _ => false

section
variable {P : Program} {w0 w : World} {p : PMap} {H T : AH} {e : Operand → Option V} {o : Oper}

/-- Cells of one block of the call's own are written. -/
structure Wrote (w0 w w' : World) (β : Nat) (cs' : Array Value) (t : TypeId) (fz : Nat × Nat) : Prop where
  heap : w'.heap[β]? = some (.cells cs' t fz)
  far : ∀ x, x ≠ β → w'.heap[x]? = w.heap[x]?
  below : w0.heap.size ≤ β → Below w0.heap.size w w'

theorem storeCells_run (P : Program) (w0 : World) {β : Nat} {t : TypeId} {fz : Nat × Nat} : ∀ (rs : List Value) (o k : Nat) (cs : Array Value) (w : World), w.heap[β]? = some (.cells cs t fz) → (∀ r ∈ rs, r.oneCell' = true) → o + k + rs.length ≤ cs.size →
    (∀ i, i < cs.size → ¬ (fz.1 ≤ i ∧ i < fz.2)) → ∃ w' cs', (storeCells ⟨β, o, none⟩ rs k).run P w = .ok () w' ∧ cs'.toList = putL cs.toList (o + k) rs ∧ Wrote w0 w w' β cs' t fz
  | [], o, k, cs, w, h, _, _, _ => ⟨w, cs, by simp [storeCells], rfl, h, fun _ _ => rfl, fun _ => Below.refl _ _⟩
  | r :: rs, o, k, cs, w, h, h1, h2, h3 => by
    simp only [List.length_cons] at h2
    have hlt : o + k < cs.size := by omega
    have hcell : w.cell? ⟨β, o + k, none⟩ = some cs[o + k] := by simp [World.cell?, h, hlt]
    have hfr : w.frozen? ⟨β, o + k, none⟩ = false := by
      have := h3 _ hlt
      simp only [World.frozen?, h, Bool.and_eq_false_iff, decide_eq_false_iff_not]
      omega
    have hst : (store ⟨β, o + k, none⟩ r).run P w = .ok () (w.setCell ⟨β, o + k, none⟩ r) := by
      rw [run_store P w _ r .plain (h1 r (by simp)), hcell]
      simp [hfr]
    obtain ⟨w', cs', h4, h5, h6⟩ := storeCells_run P w0 rs o (k + 1) (cs.setIfInBounds (o + k) r) (w.setCell ⟨β, o + k, none⟩ r) (heap_setCell_same w ⟨β, o + k, none⟩ r cs t fz h rfl) (fun x hx => h1 x (by simp [hx])) (by simp; omega) (by simpa using h3)
    refine ⟨w', cs', ?_, ?_, h6.heap, fun x hx => (h6.far x hx).trans (Below.heap_setCell _ _ _ _ hx), fun hb => ((Below.refl _ _).setCell (p := ⟨β, o + k, none⟩) hb r).trans (h6.below hb)⟩
    · simp only [storeCells, Sem.run_bind, add_addr, hst, Result.andThen_ok, h4]
    · rw [h5, putL]; simp [Nat.add_assoc]

theorem Inv.wrote (h : Inv w0 p H w) {b : Nat} {en : Ent} (he : p b = some en) {vs vs' : List V} (hb : H[b]? = some (.cells vs false)) {w' : World} {cs cs' : Array Value} {t : TypeId} {fz : Nat × Nat}
    (hcs : w.heap[en.blk]? = some (.cells cs t fz)) (hw : Wrote w0 w w' en.blk cs' t fz) (hsz : cs'.size = cs.size) (hl : vs'.length ≤ en.ext) (hc : CellsR p vs' cs' en.off) : Inv w0 p (H.set b (.cells vs' false)) w' := by
  have hbl := h.blocks b en he
  rw [hb] at hbl
  obtain ⟨cs0, t0, fz0, h1, h2, h3, h4, h5⟩ := hbl
  rw [hcs] at h1
  simp only [Option.some.injEq, Obj.cells.injEq] at h1
  obtain ⟨rfl, rfl, rfl⟩ := h1
  simp only [Bool.false_eq_true, if_false] at h5
  have hbH : b < H.length := h.lt he
  refine ⟨h.below.trans (hw.below h5.1), fun x f hx => ?_, fun x y f g hx hy l1 l2 hfg => ?_, h.glob⟩
  · by_cases hxb : x = b
    · subst hxb
      rw [he] at hx
      injection hx with hx
      subst hx
      rw [List.getElem?_set_self hbH]
      exact ⟨cs', t, fz, hw.heap, by rw [hsz]; exact h2, hl, hc, by simp only [Bool.false_eq_true, if_false]; rw [hsz]; exact h5⟩
    · rw [List.getElem?_set_ne (Ne.symm hxb)]
      have hxx := h.blocks x f hx
      refine hxx.mono (PMap.le_refl _) fun hd => ?_
      refine hw.far _ (fun heq => ?_)
      cases hHx : H[x]? with
      | none => rw [hHx] at hxx; exact hxx
      | some ob =>
        cases ob with
        | dead => exact hd hHx
        | mp es => exact hxb (h.inj x b f en hx he (by simp [live, hHx]) (by simp [live, hb]) heq)
        | cells us ro =>
          cases ro with
          | false => exact hxb (h.inj x b f en hx he (by simp [live, hHx]) (by simp [live, hb]) heq)
          | true =>
            rw [hHx] at hxx
            obtain ⟨_, _, _, _, _, _, _, h9⟩ := hxx
            simp only [if_true] at h9
            omega
  · have tr : ∀ z, live (H.set b (.cells vs' false)) z → live H z := by
      intro z hz
      by_cases hzb : z = b
      · subst hzb; simp [live, hb]
      · unfold live at hz ⊢
        rwa [List.getElem?_set_ne (Ne.symm hzb)] at hz
    exact h.inj x y f g hx hy (tr x l1) (tr y l2) hfg

/-- A block becomes nobody's, and a new abstract block has its place from 'i' on. -/
theorem Inv.steal (h : Inv w0 p H w) {b : Nat} {en : Ent} (he : p b = some en) {vs vs' : List V} (hb : H[b]? = some (.cells vs false)) {w' : World} {cs cs' : Array Value} {t : TypeId} {fz : Nat × Nat} {i : Nat}
    (hcs : w.heap[en.blk]? = some (.cells cs t fz)) (hw : Wrote w0 w w' en.blk cs' t fz) (hsz : cs'.size = cs.size) (hi : i ≤ en.ext) (hl : vs'.length ≤ en.ext - i) (hc : CellsR p vs' cs' (en.off + i)) :
    Inv w0 (p.put H.length ⟨en.blk, en.off + i, en.ext - i⟩) (H.set b .dead ++ [.cells vs' false]) w' := by
  have hbl := h.blocks b en he
  rw [hb] at hbl
  obtain ⟨cs0, t0, fz0, h1, h2, h3, h4, h5⟩ := hbl
  rw [hcs] at h1
  simp only [Option.some.injEq, Obj.cells.injEq] at h1
  obtain ⟨rfl, rfl, rfl⟩ := h1
  simp only [Bool.false_eq_true, if_false] at h5
  have hbH : b < H.length := h.lt he
  have hnone : p H.length = none := by
    cases hx : p H.length with
    | none => rfl
    | some f => exact absurd (h.lt hx) (by omega)
  have hle := PMap.le_put ⟨en.blk, en.off + i, en.ext - i⟩ hnone
  have hlen : (H.set b .dead).length = H.length := by simp
  have hnew : (H.set b .dead ++ [Blk.cells vs' false])[H.length]? = some (.cells vs' false) := by
    rw [List.getElem?_append_right (by omega)]
    simp
  have hold : ∀ x, x < H.length → x ≠ b → (H.set b .dead ++ [Blk.cells vs' false])[x]? = H[x]? := by
    intro x hx hne
    rw [List.getElem?_append_left (by omega), List.getElem?_set_ne (Ne.symm hne)]
  have hdead : (H.set b .dead ++ [Blk.cells vs' false])[b]? = some .dead := by
    rw [List.getElem?_append_left (by omega), List.getElem?_set_self hbH]
  refine ⟨h.below.trans (hw.below h5.1), fun x f hx => ?_, fun x y f g hx hy l1 l2 hfg => ?_, h.glob⟩
  · by_cases hxn : x = H.length
    · subst hxn
      rw [PMap.put_same] at hx
      injection hx with hx
      subst hx
      rw [hnew]
      exact ⟨cs', t, fz, hw.heap, by rw [hsz]; simp only; omega, hl, hc.mono hle, by simp only [Bool.false_eq_true, if_false]; rw [hsz]; exact h5⟩
    · rw [PMap.put_ne _ _ hxn] at hx
      by_cases hxb : x = b
      · subst hxb
        rw [hdead]
        trivial
      · rw [hold x (h.lt hx) hxb]
        have hxx := h.blocks x f hx
        refine hxx.mono hle fun hd => ?_
        refine hw.far _ (fun heq => ?_)
        cases hHx : H[x]? with
        | none => rw [hHx] at hxx; exact hxx
        | some ob =>
          cases ob with
          | dead => exact hd hHx
          | mp es => exact hxb (h.inj x b f en hx he (by simp [live, hHx]) (by simp [live, hb]) heq)
          | cells us ro =>
            cases ro with
            | false => exact hxb (h.inj x b f en hx he (by simp [live, hHx]) (by simp [live, hb]) heq)
            | true =>
              rw [hHx] at hxx
              obtain ⟨_, _, _, _, _, _, _, h9⟩ := hxx
              simp only [if_true] at h9
              omega
  · have tr : ∀ z q, p z = some q → live (H.set b .dead ++ [Blk.cells vs' false]) z → z ≠ b ∧ live H z := by
      intro z q hz hl
      by_cases hzb : z = b
      · subst hzb
        simp [live, hdead] at hl
      · unfold live at hl ⊢
        rw [hold z (h.lt hz) hzb] at hl
        exact ⟨hzb, hl⟩
    by_cases hxn : x = H.length <;> by_cases hyn : y = H.length
    · rw [hxn, hyn]
    · subst hxn
      rw [PMap.put_same] at hx
      injection hx with hx
      subst hx
      rw [PMap.put_ne _ _ hyn] at hy
      obtain ⟨h6, h7⟩ := tr y g hy l2
      exact absurd (h.inj y b g en hy he h7 (by simp [live, hb]) hfg.symm) h6
    · subst hyn
      rw [PMap.put_same] at hy
      injection hy with hy
      subst hy
      rw [PMap.put_ne _ _ hxn] at hx
      obtain ⟨h6, h7⟩ := tr x f hx l1
      exact absurd (h.inj x b f en hx he h7 (by simp [live, hb]) hfg) h6
    · rw [PMap.put_ne _ _ hxn] at hx
      rw [PMap.put_ne _ _ hyn] at hy
      exact h.inj x y f g hx hy (tr x f hx l1).2 (tr y g hy l2).2 hfg

theorem setN_some {b i : Nat} {cs : List V} {H' : AH} (h : H.setN b i cs = some H') : ∃ vs, H[b]? = some (.cells vs false) ∧ i + cs.length ≤ vs.length ∧ H' = H.set b (.cells (putL vs i cs) false) := by
  unfold AH.setN at h
  split at h
  · rename_i vs hb
    split at h
    · rename_i hl
      injection h with h
      exact ⟨vs, hb, hl, h.symm⟩
    · cases h
  · cases h

/-- Storing related cells. -/
theorem store_inv (P : Program) (hI : Inv w0 p H w) {b i : Nat} {cs : List V} {H' : AH} (h : H.setN b i cs = some H') {en : Ent} (he : p b = some en) {rs : List Value} (hr : RnL p cs rs) (ho : ∀ v ∈ cs, v.one = true) :
    ∃ w', (storeCells ⟨en.blk, en.off + i, none⟩ rs).run P w = .ok () w' ∧ Inv w0 p H' w' := by
  obtain ⟨vs, hb, hl, rfl⟩ := setN_some h
  have hbl := hI.blocks b en he
  rw [hb] at hbl
  obtain ⟨cs0, t, fz, h1, h2, h3, h4, h5⟩ := hbl
  simp only [Bool.false_eq_true, if_false] at h5
  have hone : ∀ r ∈ rs, r.oneCell' = true := by
    intro r hr'
    obtain ⟨j, hj⟩ := List.mem_iff_getElem?.1 hr'
    have hjl : j < cs.length := by rw [← hr.length]; exact (List.getElem?_eq_some_iff.1 hj).1
    obtain ⟨r2, h6, h7⟩ := hr.get j cs[j] (List.getElem?_eq_getElem hjl)
    rw [h6] at hj
    injection hj with hj
    subst hj
    exact h7.one (ho _ (List.getElem_mem hjl))
  obtain ⟨w', cs', h6, h7, h8⟩ := storeCells_run P w0 rs (en.off + i) 0 cs0 w h1 hone (by rw [hr.length]; omega) h5.2
  refine ⟨w', h6, hI.wrote he hb h1 h8 (by have := congrArg List.length h7; rw [putL_length] at this; simpa using this) (by rw [putL_length]; exact h3) ?_⟩
  intro j v hv
  rw [putL_get _ _ _ _ hl] at hv
  have hsz : en.off + i + rs.length ≤ cs0.toList.length := by rw [hr.length]; simp; omega
  rw [← Array.getElem?_toList, h7, Nat.add_zero, putL_get _ _ _ _ hsz]
  by_cases hj : i ≤ j ∧ j < i + cs.length
  · rw [if_pos hj] at hv
    rw [if_pos (by rw [hr.length]; omega), show en.off + j - (en.off + i) = j - i by omega]
    obtain ⟨r2, h9, h10⟩ := hr.get _ _ hv
    exact ⟨ho _ (List.mem_of_getElem? hv), r2, h9, h10⟩
  · rw [if_neg hj] at hv
    rw [if_neg (by rw [hr.length]; omega)]
    obtain ⟨h9, r2, h10, h11⟩ := h4 j v hv
    exact ⟨h9, r2, by rw [Array.getElem?_toList]; exact h10, h11⟩

end
end Go.Proofs.YtpjkammmoaeheaaDoor.Aw

/- append, maps written; all of 'eop'. -/
set_option linter.unusedSimpArgs false
set_option linter.unusedVariables false
namespace Go.Proofs.YtpjkammmoaeheaaDoor.Aw
open Go Go.RowKit

section
variable {P : Program} {w0 w : World} {p : PMap} {H T : AH} {e : Operand → Option V} {o : Oper}

theorem firstCells_sl (w : World) (sz n : Nat) (a : Addr) (m c : Nat) (rs : List Value) (hl : rs.length = n * sz) (h : ∀ j r, rs[j]? = some r → w.cell? (a.add j) = some r) : (Builtin.firstCells sz n (.slice (some a) m c)).run P w = .ok (List.toArray rs) w := by
  simp only [Builtin.firstCells]
  exact run_loadCells' a w (n * sz) rs hl h

/-- What is appended: as many, and the cells that they are. -/
theorem src_run (hI : Inv w0 p H w) {sz : Nat} {xt : TypeId} {x : V} {rx : Value} (hx : Rn p x rx) {m : Nat} {news : List V} (h : srcA P H sz xt x = some (m, news)) :
    (∃ d, P.underlying xt = some d ∧ ∀ k, d ≠ .int k) ∧ (∀ w' : World, (Builtin.lenOf rx).run P w' = .ok m w') ∧ (∀ v ∈ news, v.one = true) ∧ news.length = m * sz ∧ ∃ rs, RnL p news rs ∧ ∀ w', (∀ a, w'.cell? a = w.cell? a) → (Builtin.firstCells sz m rx).run P w' = .ok (List.toArray rs) w' := by
  unfold srcA at h
  split at h
  · rename_i el b i k c hu
    cases hc : AH.cellsN H b i (k * sz) with
    | none => simp [hc] at h
    | some l =>
      simp [hc] at h
      obtain ⟨rfl, rfl⟩ := h
      refine ⟨⟨_, hu, by simp⟩, ?_⟩
      by_cases hk : k = 0
      · subst hk
        obtain ⟨a, c', rfl, _⟩ := sl_some hx
        have hl0 : l = [] := cellsN_zero (by rwa [Nat.zero_mul] at hc)
        subst hl0
        exact ⟨fun w' => by simp [Builtin.lenOf], by simp, by simp, [], by simp [RnL], fun w' hw' => by cases a <;> simp [Builtin.firstCells, loadCells, loadCellsFrom]⟩
      · obtain ⟨en, c', hp, rfl, _⟩ := sl_addr hx (by omega)
        obtain ⟨hl, ho, rs, hrl, hrn, hcell⟩ := hI.cellsN hc hp
        exact ⟨fun w' => by simp [Builtin.lenOf], ho, hl, rs, hrn, fun w' hw' => firstCells_sl w' sz k _ _ _ rs hrl (fun j r hj => by rw [hw', add_addr]; exact hcell j r hj)⟩
  · rename_i s hu
    split at h
    · rename_i hs
      subst hs
      simp only [Option.some.injEq, Prod.mk.injEq] at h
      obtain ⟨rfl, rfl⟩ := h
      simp only [Rn] at hx
      subst hx
      refine ⟨⟨_, hu, by simp⟩, fun w' => by simp [Builtin.lenOf]; rfl, ?_, by simp, s.map (fun b => Value.int .u8 b.toNat), ?_, fun w' hw' => ?_⟩
      · intro v hv
        obtain ⟨b, _, rfl⟩ := List.mem_map.1 hv
        rfl
      · refine RnL.of_get (by simp) fun i v r hv hr => ?_
        rw [List.getElem?_map] at hv hr
        cases hs : s[i]? with
        | none => simp [hs] at hv
        | some b =>
          simp [hs] at hv hr
          subst hv hr
          simp [byteV, Rn]
      · have : ((⟨⟨s⟩⟩ : ByteArray).extract 0 s.length) = ⟨⟨s⟩⟩ := by
          apply ByteArray.ext
          apply Array.ext'
          rw [Lib.extract_data]
          simp
        simp only [Builtin.firstCells, this, Sem.run_pure]
        simp
    · cases h
  · cases h

theorem append_fits {t xt ty el : TypeId} {d : TypeDesc} (ht : P.underlying t = some (.slice el)) (hxt : P.underlying xt = some d) (hd : ∀ k, d ≠ .int k) {sz : Nat} (hs : tsize P el = some sz) {base : Option Addr} {n c : Nat} {x : Value} {m : Nat} {news : Array Value}
    (hlen : (Builtin.lenOf x).run P w = .ok m w) (hfirst : (Builtin.firstCells sz m x).run P w = .ok news w) (hroom : n + m ≤ c) :
    (Builtin.append_ #[t, xt] ty #[.slice base n c, x]).run P w = match base with
      | some a => ((storeCells (a.add (n * sz)) news.toList).run P w).andThen fun _ w' => .ok (.slice base (n + m) c) w'
      | none => .ok (.slice none (n + m) c) w := by
  have hm : (match d with | .int _ => true | _ => false) = false := by cases d <;> first | rfl | exact absurd rfl (hd _)
  cases base <;> simp [Builtin.append_, und_run ht, und_run hxt, tsize_run hs, hm, hlen, hfirst, hroom]

theorem append_grows {t xt ty el : TypeId} {d : TypeDesc} (ht : P.underlying t = some (.slice el)) (hxt : P.underlying xt = some d) (hd : ∀ k, d ≠ .int k) {i : TypeInfo} {z : Value} (hi : P.info? el = some i) (hz : i.zero = some z) {base : Option Addr} {n c : Nat} {x : Value} {m : Nat} {news olds : Array Value}
    (hlen : (Builtin.lenOf x).run P w = .ok m w) (hfirst : (Builtin.firstCells i.size m x).run P w.drew = .ok news w.drew) (hold : (Builtin.firstCells i.size n (.slice base n c)).run P w.drew = .ok olds w.drew) (hg : c < n + m) (hb : (n + m) * i.bytes ≤ 140737488355328) (h63 : n + m ≤ 140737488355328) :
    (Builtin.append_ #[t, xt] ty #[.slice base n c, x]).run P w = .ok (.slice (some ⟨w.heap.size, 0, none⟩) (n + m) (grownCap w (n + m) c el)) (w.drew.alloc (.cells (olds ++ news ++ Builtin.zeroCells z.cells (grownCap w (n + m) c el - (n + m))) el)) := by
  have hm : (match d with | .int _ => true | _ => false) = false := by cases d <;> first | rfl | exact absurd rfl (hd _)
  have hn : ¬ (n + m ≤ c) := by omega
  have h63' : ¬ (9223372036854775807 < ((n : Int) + (m : Int))) := by omega
  have h48' : ¬ (281474976710656 < Builtin.nextslicecap (n + m) c * i.bytes) := by have := growslice_fits hg hb; omega
  simp [Builtin.append_, und_run ht, und_run hxt, sizeOf, typeInfo, zeroValue, hi, hz, hm, hlen, hn, h63', h48', Question.forced, hfirst, hold, newRow, grownCap]

theorem alloc_new {nb : Nat} {vs : List V} {cs : Array Value} {t : TypeId} (hI : Inv w0 p H w) (hnb : nb = H.length) (hc : CellsR p vs cs 0) (hl : vs.length ≤ cs.size) :
    p nb = none ∧ Inv w0 (p.put nb ⟨w.heap.size, 0, cs.size⟩) (H ++ [.cells vs false]) (w.alloc (.cells cs t)) := by
  have hnone : p nb = none := by
    cases hx : p nb with
    | none => rfl
    | some f => exact absurd (hI.lt hx) (by omega)
  refine ⟨hnone, (hI.app [.cells vs false]).alloc hnone (by rw [hnb, List.getElem?_append_right (Nat.le_refl _)]; simp) hl hc (noFz _)⟩

theorem RnL.one_cells {vs : List V} {rs : List Value} (h : RnL p vs rs) (ho : ∀ v ∈ vs, v.one = true) (us : List Value) : CellsR p vs (List.toArray (rs ++ us)) 0 := by
  intro i v hv
  obtain ⟨r, hr, hn⟩ := h.get i v hv
  refine ⟨ho v (List.mem_of_getElem? hv), r, ?_, hn⟩
  have hi : i < rs.length := (List.getElem?_eq_some_iff.1 hr).1
  simp only [Nat.zero_add, List.getElem?_toArray]
  rw [List.getElem?_append_left hi]
  exact hr

theorem Inv.kill (h : Inv w0 p H w) (b : Nat) : Inv w0 p (H.set b .dead) w := by
  refine ⟨h.below, fun x e hx => ?_, fun x y e f hx hy l1 l2 he => ?_, h.glob⟩
  · by_cases hxb : x = b
    · subst hxb
      rw [List.getElem?_set_self (h.lt hx)]
      trivial
    · rw [List.getElem?_set_ne (Ne.symm hxb)]
      exact h.blocks x e hx
  · have tr : ∀ z q, p z = some q → live (H.set b .dead) z → live H z := by
      intro z q hz hl
      by_cases hzb : z = b
      · subst hzb
        unfold live at hl
        rw [List.getElem?_set_self (h.lt hz)] at hl
        exact hl.elim
      · unfold live at hl ⊢
        rwa [List.getElem?_set_ne (Ne.symm hzb)] at hl
    exact h.inj x y e f hx hy (tr x e hx l1) (tr y f hy l2) he

theorem cellsN_vs {b i n : Nat} {vs olds : List V} {ro : Bool} (hbv : H[b]? = some (.cells vs ro)) (hc : H.cellsN b i n = some olds) : olds.length = n ∧ ∀ j, j < n → olds[j]? = vs[i + j]? := by
  cases n with
  | zero =>
    have := cellsN_zero hc
    subst this
    exact ⟨rfl, fun j hj => by omega⟩
  | succ n =>
    simp only [AH.cellsN, AH.cellsS, hbv] at hc
    split at hc
    · injection hc with hc
      subst hc
      refine ⟨by simp; omega, fun j hj => ?_⟩
      rw [List.getElem?_take_of_lt hj, List.getElem?_drop]
    · cases hc

theorem ap_sound (hI : Inv w0 p H w) {t xt ty : TypeId} {s x v : V} {H' : AH} (h : apA P H t xt s x = some (v, H')) {rs rx : Value} (hs : Rn p s rs) (hx : Rn p x rx) :
    ∃ r w' p', (Builtin.append_ #[t, xt] ty #[rs, rx]).run P w = .ok r w' ∧ p.le p' ∧ (∀ b, b < H.length → p b = none → p' b = none) ∧ Inv w0 p' H' w' ∧ Rn p' v r := by
  unfold apA at h
  split at h
  · rename_i el ht
    split at h
    · rename_i sz z hsz hz
      (split at h; rotate_left; cases h)
      rename_i hszz
      split at h
      · rename_i m news hsrc
        obtain ⟨⟨d, hxt, hd⟩, hlen, hone, hnl, nrs, hnr, hfirst⟩ := src_run hI hx hsrc
        obtain ⟨i, zr, hi, hiz, hvz⟩ : ∃ i r, P.info? el = some i ∧ i.zero = some r ∧ vOf r = some z := by
          unfold tzero at hz
          cases hi : P.info? el with
          | none => simp [hi] at hz
          | some i =>
            cases hzz : i.zero with
            | none => simp [hi, hzz] at hz
            | some r => exact ⟨i, r, rfl, hzz, by simpa [hi, hzz] using hz⟩
        have hisz : i.size = sz := by simpa [tsize, hi] using hsz
        have hby : tbytes P el = i.bytes := by simp [tbytes, hi]
        have hzr : RnL p z.cells zr.cells.toList := (vOf_rn p hvz).cells'
        have hzs : zr.cells.size = sz := by have := hzr.length; simp at this; omega
        have hnrl : nrs.length = m * sz := by rw [hnr.length, hnl]
        -- what the growing arm leaves
        have grows : ∀ (base : Option Addr) (n c : Nat) (olds : List V) (ors : List Value) (Hk : AH), Inv w0 p Hk w → Hk.length = H.length → (∀ v ∈ olds, v.one = true) → olds.length = n * sz → RnL p olds ors →
            (∀ w', (∀ a, w'.cell? a = w.cell? a) → (Builtin.firstCells sz n (.slice base n c)).run P w' = .ok (List.toArray ors) w') → c < n + m → (n + m) * tbytes P el ≤ 140737488355328 → n + m ≤ 140737488355328 →
            ∃ r w' p', (Builtin.append_ #[t, xt] ty #[.slice base n c, rx]).run P w = .ok r w' ∧ p.le p' ∧ (∀ b, b < H.length → p b = none → p' b = none) ∧ Inv w0 p' (Hk ++ [.cells (olds ++ news) false]) w' ∧ Rn p' (.sl H.length 0 (n + m) (.toEnd sz)) r := by
          intro base n c olds ors Hk hIk hlk ho1 hol hor hof hg hb1 hb2
          have hrun := append_grows (ty := ty) ht hxt hd hi hiz (base := base) (c := c) (hlen w) (hisz ▸ hfirst w.drew (fun _ => rfl)) (hisz ▸ hof w.drew (fun _ => rfl)) hg (by rw [← hby]; exact hb1) hb2
          have hge := grownCap_ge w (n + m) c el
          have hcs : (List.toArray ors ++ List.toArray nrs ++ Builtin.zeroCells zr.cells (grownCap w (n + m) c el - (n + m))).size = grownCap w (n + m) c el * sz := by
            rw [Array.size_append, Array.size_append, size_zeroCells, hzs]
            simp only [List.size_toArray, hor.length, hol, hnrl]
            rw [← Nat.add_mul, ← Nat.add_mul]
            congr 1
            omega
          have hcr : CellsR p (olds ++ news) (List.toArray ors ++ List.toArray nrs ++ Builtin.zeroCells zr.cells (grownCap w (n + m) c el - (n + m))) 0 := by
            have := (hor.append hnr).one_cells (p := p) (by
              intro v hv
              rcases List.mem_append.1 hv with hv | hv
              · exact ho1 v hv
              · exact hone v hv) (Builtin.zeroCells zr.cells (grownCap w (n + m) c el - (n + m))).toList
            have e1 : List.toArray ((ors ++ nrs) ++ (Builtin.zeroCells zr.cells (grownCap w (n + m) c el - (n + m))).toList) = List.toArray ors ++ List.toArray nrs ++ Builtin.zeroCells zr.cells (grownCap w (n + m) c el - (n + m)) := by
              apply Array.ext'
              simp
            rwa [e1] at this
          obtain ⟨hnone, hinv⟩ := alloc_new (t := el) hIk.drew (nb := Hk.length) rfl hcr (by rw [hcs, List.length_append, hol, hnl, ← Nat.add_mul]; exact Nat.mul_le_mul_right _ hge)
          refine ⟨_, _, _, hrun, PMap.le_put _ hnone, fun b hb hpb => by rw [PMap.put_ne _ _ (by omega)]; exact hpb, hinv, ?_⟩
          simp only [Rn]
          refine .inr ⟨_, by rw [← hlk]; exact PMap.put_same _ _ _, ?_⟩
          simp only [slR, hcs, Nat.sub_zero, Nat.mul_div_cancel _ hszz.1]
          exact ⟨hszz.1, hge, .inl rfl⟩
        split at h
        · rename_i b ix n c
          obtain ⟨a0, c0, hr0, hnc0⟩ := sl_some hs
          split at h
          · rename_i hm0
            subst hm0
            simp only [Option.some.injEq, Prod.mk.injEq] at h
            obtain ⟨rfl, rfl⟩ := h
            have hnrs : nrs = [] := List.eq_nil_of_length_eq_zero (by simpa using hnrl)
            have := append_fits (ty := ty) ht hxt hd hsz (base := a0) (n := n) (c := c0) (hlen w) (hfirst w (fun _ => rfl)) (by omega)
            rw [← hr0] at this
            refine ⟨rs, w, p, ?_, PMap.le_refl _, fun _ _ h => h, hI, hs⟩
            rw [this, hnrs]
            cases a0 <;> simp [storeCells, hr0]
          · rename_i hm0
            -- in place
            have inplace : ∀ (c2 : Nat) (en : Ent), p b = some en → rs = .slice (some ⟨en.blk, en.off + ix, none⟩) n c2 → n + m ≤ c2 → ∀ H2, H.setN b (ix + n * sz) news = some H2 →
                ∃ w', (Builtin.append_ #[t, xt] ty #[rs, rx]).run P w = .ok (.slice (some ⟨en.blk, en.off + ix, none⟩) (n + m) c2) w' ∧ Inv w0 p H2 w' := by
              intro c2 en hp hrs hroom H2 hset
              obtain ⟨w', h1, h2⟩ := store_inv P hI hset hp hnr hone
              refine ⟨w', ?_, h2⟩
              have := append_fits (ty := ty) ht hxt hd hsz (base := some ⟨en.blk, en.off + ix, none⟩) (n := n) (c := c2) (hlen w) (hfirst w (fun _ => rfl)) hroom
              rw [hrs, this]
              simp only [add_addr, Nat.add_assoc] at h1 ⊢
              rw [h1]
              rfl
            -- a new row
            have newrow : ∀ (kill : Bool) (c2 : Nat), (∃ a, rs = .slice a n c2) → c2 < n + m → growA H sz (tbytes P el) b ix n m news kill = some (v, H') →
                ∃ r w' p', (Builtin.append_ #[t, xt] ty #[rs, rx]).run P w = .ok r w' ∧ p.le p' ∧ (∀ b, b < H.length → p b = none → p' b = none) ∧ Inv w0 p' H' w' ∧ Rn p' v r := by
              intro kill c2 hrs hg hgr
              obtain ⟨a2, hrs⟩ := hrs
              unfold growA at hgr
              split at hgr
              · rename_i olds hc
                (split at hgr; rotate_left; cases hgr)
                rename_i hbd
                simp only [Option.some.injEq, Prod.mk.injEq] at hgr
                obtain ⟨rfl, rfl⟩ := hgr
                have hkI : Inv w0 p (if kill then H.set b .dead else H) w := by
                  cases kill
                  · exact hI
                  · exact hI.kill b
                have hkl : (if kill then H.set b .dead else H).length = H.length := by cases kill <;> simp
                by_cases hn0 : n = 0
                · subst hn0
                  have hl0 : olds = [] := cellsN_zero (by rwa [Nat.zero_mul] at hc)
                  subst hl0
                  have := grows a2 0 c2 [] [] _ hkI hkl (by simp) (by simp) (by simp [RnL]) (fun w' _ => by cases a2 <;> simp [Builtin.firstCells, loadCells, loadCellsFrom]) hg hbd.1 hbd.2.1
                  rw [hrs]
                  exact this
                · obtain ⟨en, c3, hp, hrs2, _⟩ := sl_addr hs (by omega)
                  rw [hrs] at hrs2
                  simp only [Value.slice.injEq, true_and] at hrs2
                  obtain ⟨rfl, rfl⟩ := hrs2
                  obtain ⟨hl, ho, ors, hrl, hrn, hcell⟩ := hI.cellsN hc hp
                  have := grows (some ⟨en.blk, en.off + ix, none⟩) n c2 olds ors _ hkI hkl ho hl hrn (fun w' hw' => firstCells_sl w' sz n _ _ _ ors hrl (fun j r hj => by rw [hw', add_addr]; exact hcell j r hj)) hg hbd.1 hbd.2.1
                  rw [hrs]
                  exact this
              · cases hgr
            have hs' := hs
            simp only [Rn] at hs'
            rcases hs' with ⟨rfl, rfl, hsl⟩ | ⟨en, hp, hsl⟩
            · exact newrow false 0 ⟨none, hsl⟩ (by omega) h
            split at h
            · simp only [slR] at hsl
            · rename_i k
              simp only [slR] at hsl
              split at h
              · rename_i hroom
                rcases hsl.2 with hsl | ⟨hk0, _⟩
                · cases hset : H.setN b (ix + n * sz) news with
                  | none => simp [hset] at h
                  | some H2 =>
                    simp [hset] at h
                    obtain ⟨rfl, rfl⟩ := h
                    obtain ⟨w', h1, h2⟩ := inplace k en hp hsl hroom _ hset
                    refine ⟨_, w', p, h1, PMap.le_refl _, fun _ _ h => h, h2, ?_⟩
                    simp only [Rn]
                    refine .inr ⟨en, hp, ?_⟩
                    simp only [slR]
                    exact ⟨hroom, .inl trivial⟩
                · omega
              · rename_i hroom
                refine newrow false k ?_ (by omega) h
                rcases hsl.2 with hsl | ⟨hk0, a, hsl⟩
                · exact ⟨_, hsl⟩
                · have : n = 0 := by omega
                  exact ⟨some a, by rw [hsl, this, hk0]⟩
            · rename_i z'
              simp only [slR] at hsl
              (split at h; rotate_left; cases h)
              rename_i hzz
              subst hzz
              obtain ⟨_, hnc, hsl⟩ := hsl
              split at h
              · rename_i hfit
                have hblk := hI.blocks b en hp
                have hcap : n + m ≤ (en.ext - ix) / z' := by
                  unfold blen at hfit
                  split at hfit
                  · rename_i vs hbv
                    rw [hbv] at hblk
                    obtain ⟨cs, tt, fz, g1, g2, g3, g4, g5⟩ := hblk
                    rw [Nat.le_div_iff_mul_le hszz.1]
                    omega
                  · have h1 : 0 < (n + m) * z' := Nat.mul_pos (by omega) hszz.1
                    omega
                rcases hsl with hsl | ⟨hn0, hz0, _⟩
                · cases hset : H.setN b (ix + n * z') news with
                  | none => simp [hset] at h
                  | some H2 =>
                    simp [hset] at h
                    obtain ⟨rfl, rfl⟩ := h
                    obtain ⟨w', h1, h2⟩ := inplace _ en hp hsl hcap _ hset
                    refine ⟨_, w', p, h1, PMap.le_refl _, fun _ _ h => h, h2, ?_⟩
                    simp only [Rn]
                    refine .inr ⟨en, hp, ?_⟩
                    simp only [slR]
                    exact ⟨hszz.1, hcap, .inl trivial⟩
                · omega
              · rename_i hfit
                by_cases hcap : n + m ≤ (en.ext - ix) / z'
                · -- in place, in the spare room
                  rcases hsl with hsl | ⟨hn0, hz0, _⟩
                  · unfold growA at h
                    split at h
                    · rename_i olds hc
                      (split at h; rotate_left; cases h)
                      rename_i hbd
                      simp only [Option.some.injEq, Prod.mk.injEq, if_true] at h
                      obtain ⟨rfl, rfl⟩ := h
                      have hrw := hbd.2.2 rfl
                      unfold isRw at hrw
                      split at hrw
                      · rename_i vs hbv
                        have hblk := hI.blocks b en hp
                        rw [hbv] at hblk
                        obtain ⟨cs, tt, fz, g1, g2, g3, g4, g5⟩ := hblk
                        simp only [Bool.false_eq_true, if_false] at g5
                        have hmul : (n + m) * z' ≤ en.ext - ix := (Nat.le_div_iff_mul_le hszz.1).1 hcap
                        have hmul2 : (n + m) * z' = n * z' + m * z' := Nat.add_mul _ _ _
                        have hpos : 0 < m * z' := Nat.mul_pos (by omega) hszz.1
                        have hone2 : ∀ r ∈ nrs, r.oneCell' = true := by
                          intro r hr'
                          obtain ⟨j, hj⟩ := List.mem_iff_getElem?.1 hr'
                          have hjl : j < news.length := by rw [← hnr.length]; exact (List.getElem?_eq_some_iff.1 hj).1
                          obtain ⟨r2, h6, h7⟩ := hnr.get j news[j] (List.getElem?_eq_getElem hjl)
                          rw [h6] at hj
                          injection hj with hj
                          subst hj
                          exact h7.one (hone _ (List.getElem_mem hjl))
                        obtain ⟨w', cs', h6, h7, h8⟩ := storeCells_run P w0 nrs (en.off + ix + n * z') 0 cs w g1 hone2 (by rw [hnrl]; omega) g5.2
                        obtain ⟨hol, hog⟩ := cellsN_vs hbv hc
                        have hinv := hI.steal (w' := w') (vs' := olds ++ news) hp hbv g1 h8 (by have := congrArg List.length h7; rw [putL_length] at this; simpa using this) (i := ix) (by omega) (by rw [List.length_append, hol, hnl]; omega) (by
                          intro j u hu
                          have hsz2 : en.off + ix + n * z' + nrs.length ≤ cs.toList.length := by rw [hnrl]; simp; omega
                          rw [← Array.getElem?_toList, h7, Nat.add_zero, putL_get _ _ _ _ hsz2]
                          by_cases hj : j < n * z'
                          · rw [List.getElem?_append_left (by omega)] at hu
                            rw [if_neg (by omega)]
                            rw [hog j hj] at hu
                            obtain ⟨h9, r2, h10, h11⟩ := g4 _ _ hu
                            exact ⟨h9, r2, by rw [Array.getElem?_toList, Nat.add_assoc]; exact h10, h11⟩
                          · rw [List.getElem?_append_right (by omega), hol] at hu
                            have hjn : j - n * z' < news.length := (List.getElem?_eq_some_iff.1 hu).1
                            rw [if_pos (by rw [hnrl]; omega), show en.off + ix + j - (en.off + ix + n * z') = j - n * z' by omega]
                            obtain ⟨r2, h9, h10⟩ := hnr.get _ _ hu
                            exact ⟨hone _ (List.mem_of_getElem? hu), r2, h9, h10⟩)
                        have hnone : p H.length = none := by
                          cases hx : p H.length with
                          | none => rfl
                          | some f => exact absurd (hI.lt hx) (by omega)
                        have := append_fits (ty := ty) ht hxt hd hsz (base := some ⟨en.blk, en.off + ix, none⟩) (n := n) (c := (en.ext - ix) / z') (hlen w) (hfirst w (fun _ => rfl)) hcap
                        refine ⟨.slice (some ⟨en.blk, en.off + ix, none⟩) (n + m) ((en.ext - ix) / z'), w', _, ?_, PMap.le_put _ hnone, fun b hb hpb => by rw [PMap.put_ne _ _ (by omega)]; exact hpb, hinv, ?_⟩
                        · rw [hsl, this]
                          simp only [add_addr, h6]
                          rfl
                        · simp only [Rn]
                          refine .inr ⟨_, PMap.put_same _ _ _, ?_⟩
                          simp only [slR, Nat.sub_zero, Nat.add_zero]
                          exact ⟨hszz.1, hcap, .inl trivial⟩
                      · cases hrw
                    · cases h
                  · omega
                · refine newrow true ((en.ext - ix) / z') ?_ (by omega) h
                  rcases hsl with hsl | ⟨hn0, hz0, a, hsl⟩
                  · exact ⟨_, hsl⟩
                  · exact ⟨some a, by rw [hsl, hn0, hz0]⟩
        · cases h
      · cases h
    · cases h
  · cases h

/-! ### maps -/
theorem Inv.setMap (h : Inv w0 p H w) {b : Nat} {en : Ent} (he : p b = some en) {es es' : List (V × V)} (hb : H[b]? = some (.mp es)) {rs : Array MapEntry} {clk : Nat} (hm : MapR p es' rs.toList) :
    Inv w0 p (H.set b (.mp es')) { w with heap := w.heap.setIfInBounds en.blk (.map rs clk) } := by
  have hbl := h.blocks b en he
  rw [hb] at hbl
  obtain ⟨rs0, clk0, h1, h2, h3⟩ := hbl
  have hbH : b < H.length := h.lt he
  have hlt := heap_lt h1
  have hfar : ∀ x, x ≠ en.blk → (w.heap.setIfInBounds en.blk (.map rs clk))[x]? = w.heap[x]? := fun x hx => Array.getElem?_setIfInBounds_ne (Ne.symm hx)
  refine ⟨h.below.trans ⟨rfl, rfl, rfl, by simp, fun k hk => hfar k (by omega)⟩, fun x f hx => ?_, fun x y f g hx hy l1 l2 hfg => ?_, h.glob⟩
  · by_cases hxb : x = b
    · subst hxb
      rw [he] at hx
      injection hx with hx
      subst hx
      rw [List.getElem?_set_self hbH]
      exact ⟨rs, clk, by simp [hlt], hm, h3⟩
    · rw [List.getElem?_set_ne (Ne.symm hxb)]
      have hxx := h.blocks x f hx
      refine hxx.mono (PMap.le_refl _) fun hd => ?_
      refine hfar _ (fun heq => ?_)
      cases hHx : H[x]? with
      | none => rw [hHx] at hxx; exact hxx
      | some ob =>
        cases ob with
        | dead => exact hd hHx
        | mp es => exact hxb (h.inj x b f en hx he (by simp [live, hHx]) (by simp [live, hb]) heq)
        | cells us ro =>
          cases ro with
          | false => exact hxb (h.inj x b f en hx he (by simp [live, hHx]) (by simp [live, hb]) heq)
          | true =>
            rw [hHx] at hxx
            obtain ⟨_, _, _, _, _, _, _, h9⟩ := hxx
            simp only [if_true] at h9
            omega
  · have tr : ∀ z, live (H.set b (.mp es')) z → live H z := by
      intro z hz
      by_cases hzb : z = b
      · subst hzb; simp [live, hb]
      · unfold live at hz ⊢
        rwa [List.getElem?_set_ne (Ne.symm hzb)] at hz
    exact h.inj x y f g hx hy (tr x l1) (tr y l2) hfg

/-- What a map holds behind a store. -/
theorem upd_run {kt : TypeId} {d : TypeDesc} (hd : P.underlying kt = some d) {k v : V} {rk rv : Value} (h : kindOk P kt k = true) (hr : Rn p k rk) (hv : Rn p v rv) : ∀ {es es' : List (V × V)} {rs : List MapEntry} (i : Nat), MapR p es rs → updA k v es = some es' →
    (Instr.findNow d rk rs i = some none ∧ ∀ b, MapR p es' (rs ++ [{ key := rk, val := rv, born := b }])) ∨
    (∃ j r, Instr.findNow d rk rs i = some (some (i + j, r)) ∧ (∃ old, rs[j]? = some old ∧ Instr.sameBits 10000 old.key rk = true) ∧ MapR p es' (rs.modify j fun e => { e with key := rk, val := rv }))
  | [], es', rs, i, hm, hu => by
    simp only [MapR] at hm
    subst hm
    simp [updA] at hu
    subst hu
    exact .inl ⟨rfl, fun b => ⟨_, _, rfl, hr, hv, rfl⟩⟩
  | (x, y) :: es, es', rs, i, hm, hu => by
    obtain ⟨en, l', rfl, h1, h2, h3⟩ := hm
    have key : ∀ b, eqKey k x = some b → Instr.sameNow d rk en.key = some b ∧ (b = true → Instr.sameBits 10000 en.key rk = true) := by
      intro b hb
      unfold kindOk at h
      rw [hd] at h
      unfold eqKey at hb
      split at hb <;> first | cases hb; done | skip
      · split at hb <;> first | cases hb; done | skip
        rename_i hk
        injection hb with hb
        subst hb hk
        simp only [Rn] at hr h1
        rw [hr, h1]
        split at h <;> first | cases h; done | skip
        all_goals rename_i h4 h5; first | cases h5; done | skip
        all_goals injection h4 with h4; subst h4
        all_goals refine ⟨by simp [Instr.sameNow], fun hb => ?_⟩
        all_goals simp [Instr.sameBits] at hb ⊢
        all_goals exact hb.symm
      · injection hb with hb
        subst hb
        simp only [Rn] at hr h1
        rw [hr, h1]
        split at h <;> first | cases h; done | skip
        all_goals rename_i h4 h5; first | cases h5; done | skip
        all_goals injection h4 with h4; subst h4
        all_goals refine ⟨by simp [Instr.sameNow, bstr_beq], fun hb => ?_⟩
        all_goals simp [Instr.sameBits, bstr_beq] at hb ⊢
        all_goals exact hb.symm
      · injection hb with hb
        subst hb
        simp only [Rn] at hr h1
        rw [hr, h1]
        split at h <;> first | cases h; done | skip
        all_goals rename_i h4 h5; first | cases h5; done | skip
        all_goals injection h4 with h4; subst h4
        all_goals refine ⟨by simp [Instr.sameNow], fun hb => ?_⟩
        all_goals simp [Instr.sameBits] at hb ⊢
        all_goals exact hb.symm
    simp only [updA] at hu
    cases hb : eqKey k x with
    | none => simp [hb] at hu
    | some b =>
      obtain ⟨hs, hbits⟩ := key b hb
      cases b with
      | true =>
        simp only [hb, Option.some.injEq] at hu
        subst hu
        refine .inr ⟨0, en.val, by simp [Instr.findNow, hs], ⟨en, by simp, hbits rfl⟩, ?_⟩
        exact ⟨{ en with key := rk, val := rv }, l', by simp [List.modify], hr, hv, h3⟩
      | false =>
        simp only [hb, Option.map_eq_some_iff] at hu
        obtain ⟨es2, hu, rfl⟩ := hu
        rcases upd_run hd h hr hv (i + 1) h3 hu with ⟨h4, h5⟩ | ⟨j, r, h4, h5, h6⟩
        · exact .inl ⟨by simp only [Instr.findNow, hs]; exact h4, fun b => ⟨en, _, rfl, h1, h2, h5 b⟩⟩
        · refine .inr ⟨j + 1, r, by simp only [Instr.findNow, hs]; rw [h4, show i + 1 + j = i + (j + 1) by omega], by simpa using h5, ⟨en, l'.modify j _, by simp [List.modify], h1, h2, h6⟩⟩

theorem map_sound (hI : Inv w0 p H w) {t : TypeId} {m k v : V} {H' : AH} (h : mapA P H t m k v = some H') {rm rk rv : Value} (hm : Rn p m rm) (hk : Rn p k rk) (hv : Rn p v rv) :
    ∃ w', (Instr.mapUpdate t rm rk rv).run P w = .ok () w' ∧ Inv w0 p H' w' := by
  unfold mapA at h
  split at h
  · rename_i kt el b hu
    split at h
    · rename_i es hb
      (split at h; rotate_left; cases h)
      rename_i hko
      simp only [Option.map_eq_some_iff] at h
      obtain ⟨es', hup, rfl⟩ := h
      simp only [Rn] at hm
      obtain ⟨en, hp, rfl⟩ := hm
      have hbl := hI.blocks b en hp
      rw [hb] at hbl
      obtain ⟨rs, clk, h1, h2, h3⟩ := hbl
      obtain ⟨d, hd⟩ : ∃ d, P.underlying kt = some d := by
        unfold kindOk at hko
        cases hd : P.underlying kt with
        | none => simp [hd] at hko
        | some d => exact ⟨d, rfl⟩
      have hck := checkKey_run (P := P) (w := w) hko hk false 9999
      have hset : ∀ o, (setObj en.blk o).run P w = .ok () { w with heap := w.heap.setIfInBounds en.blk o } := by
        intro o
        simp [setObj, Sem.run, h1]
      rcases upd_run hd hko hk hv 0 h2 hup with ⟨h4, h5⟩ | ⟨j, r, h4, ⟨old, h5, h6⟩, h7⟩
      · have hfk : (Instr.findKey kt rk rs.toList).run P w = .ok none w := by simp [Instr.findKey, und_run hd, h4]
        refine ⟨_, ?_, hI.setMap hp hb (rs := rs.push { key := rk, val := rv, born := clk }) (clk := clk + 1) (by simpa using h5 clk)⟩
        simp only [Instr.mapUpdate, Sem.run_bind, und_run hu, Result.andThen_ok, getMap_run h1]
        rw [hck]
        simp only [Result.andThen_ok, hfk, hset]
      · have hfk : (Instr.findKey kt rk rs.toList).run P w = .ok (some (j, r)) w := by simp [Instr.findKey, und_run hd, h4]
        refine ⟨_, ?_, hI.setMap hp hb (rs := rs.modify j fun e => { e with key := rk, val := rv }) (clk := clk) (by simpa using h7)⟩
        simp only [Instr.mapUpdate, Sem.run_bind, und_run hu, Result.andThen_ok, getMap_run h1]
        rw [hck]
        have hold : (((rs[j]?).map (·.key)).getD rk) = old.key := by
          rw [Array.getElem?_toList] at h5
          simp [h5]
        simp only [Result.andThen_ok, hfk, Sem.run_bind, hold, Instr.keyThatStays, h6, if_true, Sem.run_pure, hset]
    · cases h
  · cases h

theorem args_two {xs : List Operand} {ρ : Operand → Value} {e : Operand → Option V} (he : ∀ x v, e x = some v → Rn p v (ρ x)) {s x : V} (h : evL e xs = some [s, x]) : ∃ a b, xs = [a, b] ∧ Rn p s (ρ a) ∧ Rn p x (ρ b) := by
  cases xs with
  | nil => simp [evL] at h
  | cons a r =>
    simp only [evL] at h
    split at h
    · rename_i v l h1 h2
      simp only [Option.some.injEq, List.cons.injEq] at h
      obtain ⟨rfl, rfl⟩ := h
      cases r with
      | nil => simp [evL] at h2
      | cons b r =>
        simp only [evL] at h2
        split at h2
        · rename_i v2 l2 h3 h4
          simp only [Option.some.injEq, List.cons.injEq] at h2
          obtain ⟨rfl, rfl⟩ := h2
          cases r with
          | nil => exact ⟨a, b, rfl, he _ _ h1, he _ _ h3⟩
          | cons c r =>
            simp only [evL] at h4
            split at h4 <;> simp at h4
        · cases h2
    · cases h

theorem setN_len {b i : Nat} {cs : List V} {H' : AH} (h : H.setN b i cs = some H') : H.length ≤ H'.length := by
  obtain ⟨vs, _, _, rfl⟩ := setN_some h
  simp

theorem mapA_len {t : TypeId} {m k v : V} {H' : AH} (h : mapA P H t m k v = some H') : H.length ≤ H'.length := by
  unfold mapA at h
  split at h <;> first | cases h; done | skip
  split at h <;> first | cases h; done | skip
  split at h <;> first | cases h; done | skip
  simp only [Option.map_eq_some_iff] at h
  obtain ⟨_, _, rfl⟩ := h
  simp

theorem growA_len {sz bytes b i n m : Nat} {news : List V} {kill : Bool} {v : V} {H' : AH} (h : growA H sz bytes b i n m news kill = some (v, H')) : H.length ≤ H'.length := by
  unfold growA at h
  split at h <;> first | cases h; done | skip
  split at h <;> first | cases h; done | skip
  simp only [Option.some.injEq, Prod.mk.injEq] at h
  obtain ⟨_, rfl⟩ := h
  cases kill <;> simp

theorem apA_len {t xt : TypeId} {s x v : V} {H' : AH} (h : apA P H t xt s x = some (v, H')) : H.length ≤ H'.length := by
  unfold apA at h
  split at h <;> first | cases h; done | skip
  split at h <;> first | cases h; done | skip
  split at h <;> first | cases h; done | skip
  split at h <;> first | cases h; done | skip
  split at h <;> first | cases h; done | skip
  · split at h
    · simp only [Option.some.injEq, Prod.mk.injEq] at h
      obtain ⟨_, rfl⟩ := h
      exact Nat.le_refl _
    · split at h
      · exact growA_len h
      · split at h
        · simp only [Option.map_eq_some_iff, Prod.mk.injEq] at h
          obtain ⟨H2, hs, _, rfl⟩ := h
          exact setN_len hs
        · exact growA_len h
      · split at h <;> first | cases h; done | skip
        split at h
        · simp only [Option.map_eq_some_iff, Prod.mk.injEq] at h
          obtain ⟨H2, hs, _, rfl⟩ := h
          exact setN_len hs
        · exact growA_len h

/-- ALL OF 'eop'. -/
theorem eop_sound (hI : Inv w0 p H w) {a : Act} (he : ∀ x v, e x = some v → Rn p v (a.eval x)) {K : Option V → AH → Prop} (hk : eop P e o.op H K) {next : Act → World → Prop} {Q : Exit → Act → World → Prop}
    (hnext : ∀ ov H' p' w' r, K ov H' → p.le p' → ((∀ b, b < H.length → p b = none → p' b = none) ∧ H.length ≤ H'.length) → Inv w0 p' H' w' → (∀ v, ov = some v → Rn p' v r) → next (a.put o.dst r) w') : o.wp P a w next Q := by
  unfold Oper.wp
  generalize ho : o.op = op at hk
  cases op <;> simp only [eop] at hk
  case store t x y =>
    split at hk
    · rename_i b i v n hx hy hs
      split at hk
      · rename_i hc
        split at hk
        · rename_i H' hset
          have h1 := he x _ hx
          simp only [Rn] at h1
          obtain ⟨en, hp, hr⟩ := h1
          have h2 := (he y _ hy).cells'
          obtain ⟨w', h3, h4⟩ := store_inv P hI hset hp h2 (by simpa using hc.2)
          have hrl : (a.eval y).cells.size = n := by have := h2.length; simp at this; omega
          have hrun : (execOp a.eval o).run P w = .ok .skip w' := by
            simp only [execOp, ho, Instr.storeAt, Sem.run_bind, hr, Instr.sureAddr, Sem.run_pure, Result.andThen_ok, storeVar, tsize_run hs, hrl]
            simp [h3]
          rw [hrun]
          exact hnext none H' p w' undef hk (PMap.le_refl _) ⟨fun _ _ h => h, setN_len hset⟩ h4 (fun v hv => by cases hv)
        · exact hk.elim
      · exact hk.elim
    · exact hk.elim
  case mapUpdate t m k x =>
    split at hk
    · rename_i mv kv xv hm hkk hx
      split at hk
      · rename_i H' hmp
        obtain ⟨w', h1, h2⟩ := map_sound hI hmp (he _ _ hm) (he _ _ hkk) (he _ _ hx)
        have hrun : (execOp a.eval o).run P w = .ok .skip w' := by simp [execOp, ho, h1]
        rw [hrun]
        exact hnext none H' p w' undef hk (PMap.le_refl _) ⟨fun _ _ h => h, mapA_len hmp⟩ h2 (fun v hv => by cases hv)
      · exact hk.elim
    · exact hk.elim
  case insert t m k x =>
    split at hk
    · rename_i mv kv xv hm hkk hx
      split at hk
      · rename_i H' hmp
        obtain ⟨w', h1, h2⟩ := map_sound hI hmp (he _ _ hm) (he _ _ hkk) (he _ _ hx)
        have hrun : (execOp a.eval o).run P w = .ok .skip w' := by simp [execOp, ho, h1]
        rw [hrun]
        exact hnext none H' p w' undef hk (PMap.le_refl _) ⟨fun _ _ h => h, mapA_len hmp⟩ h2 (fun v hv => by cases hv)
      · exact hk.elim
    · exact hk.elim
  case call c =>
    split at hk
    · rename_i f hc
      split at hk
      · rename_i g first cap vs hf hargs
        have h1 := he f _ hf
        simp only [Rn] at h1
        obtain ⟨rf, rc, hr, h2, h3⟩ := h1
        have h4 := evL_rn he hargs
        have hall := (h2.append h4).append h3
        have hargs2 : c.args.map a.eval = List.toArray (c.args.toList.map a.eval) := by
          rw [← Array.toList_map, Array.toArray_toList]
        have hexec : (execOp a.eval o).run P w = (callFunc g (List.toArray (rf ++ c.args.toList.map a.eval ++ rc))).run P w := by
          simp only [execOp, ho, resolve, hc, hr, Deferred.ofValue, Sem.run_bind, Sem.run_pure, Result.andThen_ok, invoke, hargs2]
          simp
        rcases hk w0 p w _ hI hall with ⟨h5, h6⟩ | ⟨v, r, h5, h6, h7⟩
        · rw [hexec, h5]
          refine h6.mono ?_
          rintro e w' ⟨p', H', v, r, q1, q2, q3, q4, q5, rfl⟩
          exact hnext (some v) H' p' w' r q4 q1 q2 q3 (fun v' hv => by injection hv with hv; subst hv; exact q5)
        · rw [hexec, h5]
          exact hnext (some v) H p w r h6 (PMap.le_refl _) ⟨fun _ _ h => h, Nat.le_refl _⟩ hI (fun v' hv => by injection hv with hv; subst hv; exact h7)
      · exact hk.elim
    · rename_i hc
      split at hk
      · rename_i t xt s x hts hargs
        split at hk
        · rename_i v H' hap
          obtain ⟨y, z, hxs, h1, h2⟩ := args_two he hargs
          obtain ⟨r, w', p', h3, h4, h5, h6, h7⟩ := ap_sound (ty := o.type) hI hap h1 h2
          have ha : c.args = #[y, z] := by rw [← Array.toArray_toList (xs := c.args), hxs]
          have hat : c.argTypes = #[t, xt] := by rw [← Array.toArray_toList (xs := c.argTypes), hts]
          have hrun : (execOp a.eval o).run P w = .ok (.value r) w' := by
            simp only [execOp, ho, resolve, hc, ha, hat, Sem.run_bind, Sem.run_pure, Result.andThen_ok, invoke, builtin]
            simp [h3]
          rw [hrun]
          exact hnext (some v) H' p' w' r hk h4 ⟨h5, apA_len hap⟩ h6 (fun v' hv => by injection hv with hv; subst hv; exact h7)
        · exact hk.elim
      · exact hk.elim
    · exact hk.elim
  all_goals exact hk.elim

end
end Go.Proofs.YtpjkammmoaeheaaDoor.Aw
