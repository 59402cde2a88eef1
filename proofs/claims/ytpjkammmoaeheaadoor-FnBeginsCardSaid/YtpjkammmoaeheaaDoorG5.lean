/- Plain law of expressions, and contracts of the functions: classes, draws, nodes, right expressions. -/
import Derived.Test.YtpjkammmoaeheaaDoorG9
import Derived.IntWalk
import Derived.Test.YtpjkammmoaeheaaDoorG3
import Derived.Test.YtpjkammmoaeheaaDoorG4

/- Words for contracts: steps of the calculus at known values, what stays, rows of cells, slices that the call owns, loops that count. -/
set_option linter.unusedSimpArgs false
set_option linter.unusedVariables false
namespace Go.Proofs.YtpjkammmoaeheaaDoor.Aw
open Go Go.RowKit

/-! ### Steps -/
theorem asIntI {k : IntKind} {n : Int} {K : Int → Prop} (h : K n) : asInt k (.int k n) K := by simp only [asInt, obB, decide_true]; exact h
theorem asBoolI {b : Bool} {K : Bool → Prop} (h : K b) : asBool (.bool b) K := h
theorem asStrI {s : List UInt8} {K : List UInt8 → Prop} (h : K s) : asStr (.str s) K := h
theorem asSlI {b i n : Nat} {c : Cap} {K : Nat → Nat → Nat → Cap → Prop} (h : K b i n c) : asSl (.sl b i n c) K := h
theorem asPtrI {b i : Nat} {K : Nat → Nat → Prop} (h : K b i) : asPtr (.ptr b i) K := h
theorem asMapI {b : Nat} {K : Nat → Prop} (h : K b) : asMap (.map b) K := h
theorem asAggI {l : List V} {K : List V → Prop} (h : K l) : asAgg (.agg l) K := h
theorem asTupI {l : List V} {K : List V → Prop} (h : K l) : asTup (.tup l) K := h
theorem unconsI {v : V} {l : List V} {K : V → List V → Prop} (h : K v l) : uncons (v :: l) K := h
theorem unnilI {K : Prop} (h : K) : unnil [] K := h
theorem obI {b : Bool} {K : Prop} (hb : b = true) (h : K) : obB b K := obB_iff.2 ⟨hb, h⟩
theorem getI {l : List V} {i : Nat} {v : V} {K : V → Prop} (h : l[i]? = some v) (hk : K v) : getK l i K := by unfold getK; rw [h]; exact hk

theorem ldI {H : AH} {b i : Nat} {v : V} {K : V → Prop} (h : H.cell b i = some v) (hk : K v) : ld H b i K := by unfold ld; rw [h]; exact hk
theorem ldInt {H : AH} {b i : Nat} {k : IntKind} {n : Int} {K : Int → Prop} (h : H.cell b i = some (.int k n)) (hk : K n) : ld H b i (fun v => asInt k v K) := ldI h (asIntI hk)
theorem ldBool {H : AH} {b i : Nat} {t : Bool} {K : Bool → Prop} (h : H.cell b i = some (.bool t)) (hk : K t) : ld H b i (fun v => asBool v K) := ldI h hk
theorem ldStr {H : AH} {b i : Nat} {t : List UInt8} {K : List UInt8 → Prop} (h : H.cell b i = some (.str t)) (hk : K t) : ld H b i (fun v => asStr v K) := ldI h hk
theorem ldSl {H : AH} {b i : Nat} {b' i' n' : Nat} {c' : Cap} {K : Nat → Nat → Nat → Cap → Prop} (h : H.cell b i = some (.sl b' i' n' c')) (hk : K b' i' n' c') : ld H b i (fun v => asSl v K) := ldI h hk
theorem ldPtr {H : AH} {b i : Nat} {b' i' : Nat} {K : Nat → Nat → Prop} (h : H.cell b i = some (.ptr b' i')) (hk : K b' i') : ld H b i (fun v => asPtr v K) := ldI h hk
theorem ldMap {H : AH} {b i : Nat} {b' : Nat} {K : Nat → Prop} (h : H.cell b i = some (.map b')) (hk : K b') : ld H b i (fun v => asMap v K) := ldI h hk

theorem spl {c : Bool} {x y : Prop} (hx : c = true → x) (hy : c = false → y) : splitB c x y := (splitB_iff c x y).2 ⟨hx, hy⟩
theorem splD {p : Prop} [Decidable p] {x y : Prop} (hx : p → x) (hy : ¬ p → y) : splitB (decide p) x y := spl (fun h => hx (of_decide_eq_true h)) (fun h => hy (of_decide_eq_false h))
theorem splND {p : Prop} [Decidable p] {x y : Prop} (hx : ¬ p → x) (hy : p → y) : splitB (!decide p) x y := spl (fun h => hx (by simpa using h)) (fun h => hy (by simpa using h))
theorem splNot {c : Bool} {x y : Prop} (hx : c = false → x) (hy : c = true → y) : splitB (!c) x y := spl (fun h => hx (by simpa using h)) (fun h => hy (by simpa using h))
theorem splT {c : Bool} {x y : Prop} (hc : c = true) (hx : x) : splitB c x y := by subst hc; exact hx
theorem splF {c : Bool} {x y : Prop} (hc : c = false) (hy : y) : splitB c x y := by subst hc; exact hy
theorem splE {a b : Int} {x y : Prop} (hx : a = b → x) (hy : a ≠ b → y) : splitB (a == b) x y := spl (fun h => hx (by simpa using h)) (fun h => hy (by simpa using h))
theorem splN {a b : Int} {x y : Prop} (hx : a ≠ b → x) (hy : a = b → y) : splitB (a != b) x y := spl (fun h => hx (by simpa using h)) (fun h => hy (by simpa using h))

/-- Contracts used: the call, then what comes behind. -/
theorem CallsA.use {P : Program} {f : FuncId} {args : List V} {H : AH} {R R' : V → AH → Prop} (h : CallsA P f args H R) (hr : ∀ v H', R v H' → R' v H') : CallsA P f args H R' := h.mono hr

/-! ### Numbers -/
theorem w64 {x : Int} (h1 : -9223372036854775808 ≤ x) (h2 : x ≤ 9223372036854775807) : IntKind.i64.wrap x = x := IntWalk.i64_in x ⟨h1, h2⟩
theorem inc {i : Nat} (h : i < 4611686018427387904) : IntKind.i64.wrap ((i : Int) + 1) = ((i + 1 : Nat) : Int) := by rw [w64 (by omega) (by omega)]; rfl
theorem wu8 {x : Int} (h1 : 0 ≤ x) (h2 : x ≤ 255) : IntKind.u8.wrap x = x := IntWalk.u8_in x ⟨h1, h2⟩
theorem w64_le (x : Int) : -9223372036854775808 ≤ IntKind.i64.wrap x ∧ IntKind.i64.wrap x ≤ 9223372036854775807 := by rw [IntKind.wrap_i64]; omega

/-! ### What stays -/
/-- Of the blocks that were there all stay as they were, but those of 'X'. -/
def Ext (X : Nat → Prop) (H H' : AH) : Prop := H.length ≤ H'.length ∧ ∀ b, b < H.length → ¬ X b → H'[b]? = H[b]?
abbrev Ext0 (H H' : AH) : Prop := Ext (fun _ => False) H H'
/-- The blocks of 'F' stay. -/
def Agree (F : Nat → Prop) (H H' : AH) : Prop := ∀ b, F b → b < H.length → H'[b]? = H[b]?

theorem Ext.refl (X : Nat → Prop) (H : AH) : Ext X H H := ⟨Nat.le_refl _, fun _ _ _ => rfl⟩
theorem Ext.trans {X : Nat → Prop} {H H1 H2 : AH} (h : Ext X H H1) (k : Ext X H1 H2) : Ext X H H2 := ⟨Nat.le_trans h.1 k.1, fun b hb hx => (k.2 b (Nat.lt_of_lt_of_le hb h.1) hx).trans (h.2 b hb hx)⟩
theorem Ext.mono {X Y : Nat → Prop} {H H' : AH} (h : Ext X H H') (hx : ∀ b, b < H.length → X b → Y b) : Ext Y H H' := ⟨h.1, fun b hb hy => h.2 b hb fun hm => hy (hx b hb hm)⟩
theorem Ext.of0 {X : Nat → Prop} {H H' : AH} (h : Ext0 H H') : Ext X H H' := h.mono fun _ _ h => h.elim
theorem Ext.app (X : Nat → Prop) (H : AH) (l : List Blk) : Ext X H (H ++ l) := ⟨by simp, fun b hb _ => List.getElem?_append_left hb⟩
/-- What lies behind the blocks that were there at first may change. -/
theorem Ext.new {X : Nat → Prop} {H H1 H2 : AH} (h : Ext X H H1) (k : Ext (fun b => X b ∨ H.length ≤ b) H1 H2) : Ext X H H2 :=
  ⟨Nat.le_trans h.1 k.1, fun b hb hx => (k.2 b (Nat.lt_of_lt_of_le hb h.1) (fun hm => hm.elim hx (by omega))).trans (h.2 b hb hx)⟩
theorem Ext.set {X : Nat → Prop} (H : AH) (b : Nat) (k : Blk) (hx : X b) : Ext X H (H.set b k) := ⟨by simp, fun y hy hn => by
  rw [List.getElem?_set_ne]; intro h; exact hn (h ▸ hx)⟩
theorem Ext.agree {X F : Nat → Prop} {H H' : AH} (h : Ext X H H') (hf : ∀ b, F b → ¬ X b) : Agree F H H' := fun b hb hl => h.2 b hl (hf b hb)
theorem Ext.get {X : Nat → Prop} {H H' : AH} (h : Ext X H H') {b : Nat} {k : Blk} (hk : H[b]? = some k) (hx : ¬ X b) : H'[b]? = some k := by
  have hlt : b < H.length := (List.getElem?_eq_some_iff.1 hk).1
  rw [h.2 b hlt hx, hk]
theorem Ext.cell {X : Nat → Prop} {H H' : AH} (h : Ext X H H') {b i : Nat} {v : V} (hc : H.cell b i = some v) (hx : ¬ X b) : H'.cell b i = some v := by
  obtain ⟨vs, ro, h1, h2⟩ := cell_some hc
  simp only [AH.cell, h.get h1 hx, h2]

theorem Agree.cell {F : Nat → Prop} {H H' : AH} (h : Agree F H H') {b i : Nat} {v : V} (hf : F b) (hc : H.cell b i = some v) : H'.cell b i = some v := by
  obtain ⟨vs, ro, h1, h2⟩ := cell_some hc
  have hlt : b < H.length := (List.getElem?_eq_some_iff.1 h1).1
  simp only [AH.cell, h b hf hlt, h1, h2]
theorem Agree.mono {F G : Nat → Prop} {H H' : AH} (h : Agree F H H') (hg : ∀ b, G b → F b) : Agree G H H' := fun b hb => h b (hg b hb)

theorem get_lt {H : AH} {b : Nat} {k : Blk} (h : H[b]? = some k) : b < H.length := (List.getElem?_eq_some_iff.1 h).1
theorem cell_of {H : AH} {b i : Nat} {vs : List V} {ro : Bool} {v : V} (h : H[b]? = some (.cells vs ro)) (hv : vs[i]? = some v) : H.cell b i = some v := by simp only [AH.cell, h, hv]
theorem get_new (H : AH) (k : Blk) : (H ++ [k])[H.length]? = some k := by simp
theorem get_set {H : AH} {b : Nat} (k : Blk) (h : b < H.length) : (H.set b k)[b]? = some k := by simp [h]
theorem cell_lt {H : AH} {b i : Nat} {v : V} (h : H.cell b i = some v) : b < H.length := by
  obtain ⟨vs, ro, h1, _⟩ := cell_some h
  exact get_lt h1

/-! ### Stores -/
theorem putL_one {vs : List V} {i : Nat} {v : V} : putL vs i [v] = vs.set i v := rfl
theorem stI {H : AH} {b i : Nat} {vs : List V} {v : V} {K : AH → Prop} (h : H[b]? = some (.cells vs false)) (hi : i < vs.length) (hk : K (H.set b (.cells (vs.set i v) false))) : stK H b i [v] K := by
  unfold stK AH.setN
  simp only [h, List.length_singleton, (show i + 1 ≤ vs.length from hi), if_true, putL_one]
  exact hk

theorem stN {H : AH} {b i : Nat} {vs cs : List V} {K : AH → Prop} (h : H[b]? = some (.cells vs false)) (hi : i + cs.length ≤ vs.length) (hk : K (H.set b (.cells (putL vs i cs) false))) : stK H b i cs K := by
  unfold stK AH.setN
  simp only [h, hi, if_true]
  exact hk
/-- A block of two cells is laid anew. -/
theorem stI2 {H : AH} {b : Nat} {x y u v : V} {K : AH → Prop} (h : H[b]? = some (.cells [x, y] false)) (hi : True) (hk : K (H.set b (.cells [u, v] false))) : stK H b 0 [u, v] K := stN h (by simp) hk

/-! ### Rows -/
/-- Cells from a place on. -/
def Cells (H : AH) (b i : Nat) (vs : List V) : Prop := ∀ t v, vs[t]? = some v → H.cell b (i + t) = some v
theorem Cells.one {H : AH} {b i : Nat} {vs : List V} (h : Cells H b i vs) {t : Nat} {v : V} (hv : vs[t]? = some v) : H.cell b (i + t) = some v := h t v hv
theorem Cells.keep {F : Nat → Prop} {H H' : AH} {b i : Nat} {vs : List V} (h : Cells H b i vs) (ha : Agree F H H') (hf : vs ≠ [] → F b) : Cells H' b i vs := fun t v hv => ha.cell (hf (by rintro rfl; simp at hv)) (h t v hv)
theorem Cells.of_block {H : AH} {b : Nat} {vs : List V} {ro : Bool} (h : H[b]? = some (.cells vs ro)) : Cells H b 0 vs := fun t v hv => cell_of h (by simpa using hv)
theorem Cells.cellsN {H : AH} {b i : Nat} {vs : List V} (h : Cells H b i vs) : H.cellsN b i vs.length = some vs := cellsN_of h

/-- A slice of elements, each told by 'E'; its cells lie in a block of 'F'. -/
def IsRow {α : Type} (F : Nat → Prop) (E : AH → Nat → Nat → α → Prop) (sz : Nat) (H : AH) (v : V) (l : List α) : Prop :=
  ∃ b i c, v = .sl b i l.length c ∧ l.length ≤ 140737488355328 ∧ (l ≠ [] → F b) ∧ ∀ k x, l[k]? = some x → E H b (i + k * sz) x

/-- What 'E' tells hangs on the blocks of 'F' alone. -/
def Loc {α : Type} (F : Nat → Prop) (E : AH → Nat → Nat → α → Prop) : Prop := ∀ H H' b j x, Agree F H H' → F b → E H b j x → E H' b j x

theorem IsRow.keep {α : Type} {F : Nat → Prop} {E : AH → Nat → Nat → α → Prop} {sz : Nat} {H H' : AH} {v : V} {l : List α} (h : IsRow F E sz H v l) (hE : Loc F E) (ha : Agree F H H') : IsRow F E sz H' v l := by
  obtain ⟨b, i, c, rfl, hl, hf, hc⟩ := h
  exact ⟨b, i, c, rfl, hl, hf, fun k x hx => hE _ _ _ _ _ ha (hf (by rintro rfl; simp at hx)) (hc k x hx)⟩
theorem IsRow.mono {α : Type} {F G : Nat → Prop} {E : AH → Nat → Nat → α → Prop} {sz : Nat} {H : AH} {v : V} {l : List α} (h : IsRow F E sz H v l) (hg : ∀ b, F b → G b) : IsRow G E sz H v l := by
  obtain ⟨b, i, c, rfl, hl, hf, hc⟩ := h
  exact ⟨b, i, c, rfl, hl, fun hl => hg b (hf hl), hc⟩
theorem IsRow.imp {α : Type} {F : Nat → Prop} {E E' : AH → Nat → Nat → α → Prop} {sz : Nat} {H : AH} {v : V} {l : List α} (h : IsRow F E sz H v l) (he : ∀ b j x, E H b j x → E' H b j x) : IsRow F E' sz H v l := by
  obtain ⟨b, i, c, rfl, hl, hf, hc⟩ := h
  exact ⟨b, i, c, rfl, hl, hf, fun k x hx => he _ _ _ (hc k x hx)⟩

/-- An element of one cell. -/
def e1 {α : Type} (enc : α → V) (H : AH) (b j : Nat) (x : α) : Prop := H.cell b j = some (enc x)
theorem loc_e1 {α : Type} (F : Nat → Prop) (enc : α → V) : Loc F (e1 enc) := fun _ _ _ _ _ ha hf h => ha.cell hf h
/-- Two numbers in a row. -/
def e2 (H : AH) (b j : Nat) (x : Int × Int) : Prop := H.cell b j = some (.int .i64 x.1) ∧ H.cell b (j + 1) = some (.int .i64 x.2)
theorem loc_e2 (F : Nat → Prop) : Loc F e2 := fun _ _ _ _ _ ha hf h => ⟨ha.cell hf h.1, ha.cell hf h.2⟩

def vI (x : Int) : V := .int .i64 x
abbrev IsInts (F : Nat → Prop) (H : AH) (v : V) (l : List Int) : Prop := IsRow F (e1 vI) 1 H v l
abbrev IsBools (F : Nat → Prop) (H : AH) (v : V) (l : List Bool) : Prop := IsRow F (e1 V.bool) 1 H v l
abbrev IsBytes (F : Nat → Prop) (H : AH) (v : V) (l : List UInt8) : Prop := IsRow F (e1 byteV) 1 H v l
abbrev IsSpans (F : Nat → Prop) (H : AH) (v : V) (l : List (Int × Int)) : Prop := IsRow F e2 2 H v l

theorem IsRow.of_block1 {α : Type} {F : Nat → Prop} {enc : α → V} {H : AH} {b : Nat} {c : Cap} {l : List α} {ro : Bool} (h : H[b]? = some (.cells (l.map enc) ro)) (hf : F b) (hl : l.length ≤ 140737488355328) : IsRow F (e1 enc) 1 H (.sl b 0 l.length c) l :=
  ⟨b, 0, c, rfl, hl, fun _ => hf, fun k x hx => cell_of h (by simp [hx])⟩
def spanV (s : Int × Int) : List V := [.int .i64 s.1, .int .i64 s.2]
theorem flat2 {α β : Type} {f : α → List β} {n : Nat} (hf : ∀ x, (f x).length = n) : ∀ (l : List α) (k : Nat) (x : α) (t : Nat), l[k]? = some x → t < n → (l.flatMap f)[k * n + t]? = (f x)[t]?
  | [], k, x, t, h, _ => by simp at h
  | y :: l, 0, x, t, h, ht => by
    simp at h; subst h
    simp only [List.flatMap_cons, Nat.zero_mul, Nat.zero_add]
    rw [List.getElem?_append_left (by rw [hf]; exact ht)]
  | y :: l, k + 1, x, t, h, ht => by
    simp only [List.flatMap_cons]
    rw [List.getElem?_append_right (by rw [hf, Nat.succ_mul]; omega), hf, show (k + 1) * n + t - n = k * n + t by rw [Nat.succ_mul]; omega]
    exact flat2 hf l k x t (by simpa using h) ht
theorem flat_len {α β : Type} {f : α → List β} {n : Nat} (hf : ∀ x, (f x).length = n) : ∀ (l : List α), (l.flatMap f).length = l.length * n
  | [] => by simp
  | x :: l => by simp only [List.flatMap_cons, List.length_append, hf, flat_len hf l, List.length_cons, Nat.succ_mul]; omega
theorem IsRow.of_block2 {F : Nat → Prop} {H : AH} {b : Nat} {c : Cap} {l : List (Int × Int)} {ro : Bool} (h : H[b]? = some (.cells (l.flatMap spanV) ro)) (hf : F b) (hl : l.length ≤ 140737488355328) : IsSpans F H (.sl b 0 l.length c) l :=
  ⟨b, 0, c, rfl, hl, fun _ => hf, fun k x hx => ⟨cell_of h (by
    rw [Nat.zero_add]; have := flat2 (f := spanV) (n := 2) (fun _ => rfl) l k x 0 hx (by omega); rw [Nat.add_zero] at this; rw [this]; rfl), cell_of h (by
    rw [Nat.zero_add]; rw [flat2 (f := spanV) (n := 2) (fun _ => rfl) l k x 1 hx (by omega)]; rfl)⟩⟩
theorem IsRow.nil {α : Type} {F : Nat → Prop} {E : AH → Nat → Nat → α → Prop} {sz : Nat} {H : AH} {b i : Nat} {c : Cap} : IsRow F E sz H (.sl b i 0 c) ([] : List α) := ⟨b, i, c, rfl, by simp, fun h => absurd rfl h, fun k x hx => by simp at hx⟩

/-! ### Slices that the call owns -/
/-- A slice that begins its own block, which it fills: 'vs' are its cells. -/
def Own (n0 sz : Nat) (H : AH) (b n : Nat) (c : Cap) (vs : List V) : Prop :=
  (vs.length = n * sz ∧ n ≤ 140737488355328) ∧ ((c = .nil ∧ n = 0 ∧ b = 0) ∨ (n0 ≤ b ∧ H[b]? = some (.cells vs false) ∧ (c = .ex n ∨ c = .toEnd sz)))

theorem Own.lit {n0 sz n : Nat} {H : AH} {vs : List V} (hl : vs.length = n * sz) (hn : n0 ≤ H.length) (hb : n ≤ 140737488355328) : Own n0 sz (H ++ [.cells vs false]) H.length n (.ex n) vs := ⟨⟨hl, hb⟩, .inr ⟨hn, get_new _ _, .inl rfl⟩⟩
theorem Own.nil (n0 sz : Nat) (H : AH) : Own n0 sz H 0 0 .nil [] := ⟨⟨by simp, by omega⟩, .inl ⟨rfl, rfl, rfl⟩⟩
theorem Own.keep {n0 sz b n : Nat} {H H' : AH} {c : Cap} {vs : List V} (h : Own n0 sz H b n c vs) {X : Nat → Prop} (he : Ext X H H') (hx : n0 ≤ b → ¬ X b) : Own n0 sz H' b n c vs := by
  obtain ⟨h1, h2⟩ := h
  refine ⟨h1, h2.imp id fun ⟨a1, a2, a3⟩ => ⟨a1, he.get a2 (hx a1), a3⟩⟩
theorem Own.keep' {n0 sz b n : Nat} {H H' : AH} {c : Cap} {vs : List V} (h : Own n0 sz H b n c vs) {X : Nat → Prop} (he : Ext X H H') (hx : c ≠ .nil → ¬ X b) : Own n0 sz H' b n c vs := by
  obtain ⟨h1, h2⟩ := h
  refine ⟨h1, h2.imp id fun ⟨a1, a2, a3⟩ => ⟨a1, he.get a2 (hx (by rintro rfl; rcases a3 with a3 | a3 <;> cases a3)), a3⟩⟩
theorem Own.lower {n0 m0 sz b n : Nat} {H : AH} {c : Cap} {vs : List V} (h : Own n0 sz H b n c vs) (hm : m0 ≤ n0) : Own m0 sz H b n c vs := ⟨h.1, h.2.imp id fun ⟨h1, h2⟩ => ⟨Nat.le_trans hm h1, h2⟩⟩
theorem Own.cellsN {n0 sz b n : Nat} {H : AH} {c : Cap} {vs : List V} (h : Own n0 sz H b n c vs) : H.cellsN b 0 (n * sz) = some vs := by
  obtain ⟨⟨h1, h10⟩, h2⟩ := h
  rcases h2 with ⟨rfl, rfl, rfl⟩ | ⟨_, h2, _⟩
  · have : vs = [] := by simpa using h1
    subst this
    rw [Nat.zero_mul]; rfl
  · rw [← h1]; exact (Cells.of_block h2).cellsN

theorem Own.push {n0 sz bytes b n m : Nat} {H : AH} {c : Cap} {vs news : List V} {K : Nat → Nat → Nat → Cap → AH → Prop} (h : Own n0 sz H b n c vs) (hnews : news.length = m * sz) (hm : 0 < m) (hsz : 0 < sz)
    (hb1 : (n + m) * bytes ≤ 140737488355328) (hb2 : n + m ≤ 140737488355328) (hn0 : n0 ≤ H.length)
    (hK : ∀ H', Own n0 sz H' H.length (n + m) (.toEnd sz) (vs ++ news) → H'.length = H.length + 1 → Ext (fun x => n0 ≤ x ∧ x = b ∧ c ≠ .nil) H H' → K H.length 0 (n + m) (.toEnd sz) H') : app H sz bytes b 0 n c m news K := by
  have hcn := h.cellsN
  obtain ⟨⟨h1, h10⟩, h2⟩ := h
  have hlen : (vs ++ news).length = (n + m) * sz := by rw [List.length_append, h1, hnews, Nat.add_mul]
  have hm0 : decide (m = 0) = false := decide_eq_false (by omega)
  unfold app
  simp only [hm0]
  have key : ∀ kill : Bool, (kill = true → n0 ≤ b ∧ isRw H b = true ∧ c ≠ .nil) → growA H sz bytes b 0 n m news kill = some (.sl H.length 0 (n + m) (.toEnd sz), (if kill then H.set b .dead else H) ++ [.cells (vs ++ news) false]) ∧
      K H.length 0 (n + m) (.toEnd sz) ((if kill then H.set b .dead else H) ++ [.cells (vs ++ news) false]) := by
    intro kill hk
    refine ⟨?_, ?_⟩
    · unfold growA
      simp only [hcn, hb1, hb2, true_and]
      rw [if_pos fun h => (hk h).2.1]
    · cases kill with
      | false =>
        simp only [Bool.false_eq_true, if_false]
        exact hK _ ⟨⟨hlen, hb2⟩, .inr ⟨hn0, get_new _ _, .inr rfl⟩⟩ (by simp) (Ext.app _ _ _)
      | true =>
        simp only [if_true]
        have e : (H.set b Blk.dead ++ [.cells (vs ++ news) false])[H.length]? = some (.cells (vs ++ news) false) := by
          have := get_new (H.set b Blk.dead) (.cells (vs ++ news) false)
          rwa [List.length_set] at this
        refine hK _ ⟨⟨hlen, hb2⟩, .inr ⟨hn0, e, .inr rfl⟩⟩ (by simp) ((Ext.set H b .dead (X := fun x => n0 ≤ x ∧ x = b ∧ c ≠ .nil) ⟨(hk rfl).1, rfl, (hk rfl).2.2⟩).trans ?_)
        exact Ext.app _ _ _
  rcases h2 with ⟨rfl, rfl, rfl⟩ | ⟨hb, hH, rfl | rfl⟩
  · obtain ⟨k1, k2⟩ := key false (by simp)
    simp only [k1]
    simpa using k2
  · obtain ⟨k1, k2⟩ := key false (by simp)
    have : decide (n + m ≤ n) = false := decide_eq_false (by omega)
    simp only [this, k1]
    simpa using k2
  · have hbl : blen H b = n * sz := by unfold blen; rw [hH]; exact h1
    have hms : 1 ≤ m * sz := Nat.mul_pos hm hsz
    have : decide (0 + (n + m) * sz ≤ blen H b) = false := decide_eq_false (by rw [hbl, Nat.add_mul]; omega)
    obtain ⟨k1, k2⟩ := key true (fun _ => ⟨hb, by unfold isRw; rw [hH], by simp⟩)
    simp only [this, decide_true, k1]
    simpa using k2

/-- Nothing is appended. -/
theorem app_none {H : AH} {sz bytes b i n : Nat} {c : Cap} {news : List V} {K : Nat → Nat → Nat → Cap → AH → Prop} (hk : K b i n c H) : app H sz bytes b i n c 0 news K := hk

theorem Own.row1 {α : Type} {n0 b n : Nat} {H : AH} {c : Cap} {enc : α → V} {l : List α} (h : Own n0 1 H b n c (l.map enc)) : IsRow (fun x => n0 ≤ x) (e1 enc) 1 H (.sl b 0 n c) l := by
  obtain ⟨⟨h1, h10⟩, h2⟩ := h
  have hn : n = l.length := by simpa using h1.symm
  subst hn
  rcases h2 with ⟨rfl, h0, rfl⟩ | ⟨hb, hH, _⟩
  · have : l = [] := List.length_eq_zero_iff.1 h0
    subst this
    exact IsRow.nil
  · exact IsRow.of_block1 hH hb h10
theorem Own.row2 {n0 b n : Nat} {H : AH} {c : Cap} {l : List (Int × Int)} (h : Own n0 2 H b n c (l.flatMap spanV)) : IsSpans (fun x => n0 ≤ x) H (.sl b 0 n c) l := by
  obtain ⟨⟨h1, h10⟩, h2⟩ := h
  have hn : n = l.length := by rw [flat_len (n := 2) (fun _ => rfl)] at h1; omega
  subst hn
  rcases h2 with ⟨rfl, h0, rfl⟩ | ⟨hb, hH, _⟩
  · have : l = [] := List.length_eq_zero_iff.1 h0
    subst this
    exact IsRow.nil
  · exact IsRow.of_block2 hH hb h10

theorem cellsI {H : AH} {b i n : Nat} {l : List V} {K : List V → Prop} (h : H.cellsN b i n = some l) (hk : K l) : cellsK H b i n K := by unfold cellsK; rw [h]; exact hk
/-- The cells that were laid last. -/
theorem cellsNew {H : AH} {vs : List V} {ro : Bool} {n : Nat} {K : List V → Prop} (hn : n = vs.length) (hk : K vs) : cellsK (H ++ [.cells vs ro]) H.length 0 n K := by
  subst hn
  exact cellsI (Cells.of_block (get_new _ _)).cellsN hk

/-! ### Loops -/
theorem loopI {F : Env → AH → (Env → AH → Prop) → Prop} {env : Env} {H : AH} (I : Nat → Env → AH → Prop) (n : Nat) (h0 : I n env H) (hs : ∀ n env H, I n env H → F env H fun e' H' => ∃ m, m < n ∧ I m e' H') : LoopI F env H := ⟨I, n, h0, hs⟩

/-- What the next round of a loop that counts up to 'N' begins with. -/
def Nxt {σ : Type} (N : Nat) (e : Nat → σ → Env) (I : Nat → σ → AH → Prop) (i : Nat) (env : Env) (H : AH) : Prop := ∃ m, m < N - i ∧ ∃ i' s', i' ≤ N ∧ m = N - i' ∧ env = e i' s' ∧ I i' s' H
theorem nxt {σ : Type} {N : Nat} {e : Nat → σ → Env} {I : Nat → σ → AH → Prop} {i : Nat} {env : Env} {H : AH} (s' : σ) (hi : i < N) (he : env = e (i + 1) s') (hI : I (i + 1) s' H) : Nxt N e I i env H := ⟨N - (i + 1), by omega, i + 1, s', hi, rfl, he, hI⟩
theorem loopUp {σ : Type} {F : Env → AH → (Env → AH → Prop) → Prop} {env0 : Env} {H0 : AH} (N : Nat) (e : Nat → σ → Env) (I : Nat → σ → AH → Prop) (s0 : σ) (he : env0 = e 0 s0) (h0 : I 0 s0 H0)
    (hs : ∀ i s H, i ≤ N → I i s H → F (e i s) H (Nxt N e I i)) : LoopI F env0 H0 := by
  refine ⟨fun n env H => ∃ i s, i ≤ N ∧ n = N - i ∧ env = e i s ∧ I i s H, N - 0, ⟨0, s0, Nat.zero_le _, rfl, he, h0⟩, ?_⟩
  rintro n env H ⟨i, s, hi, rfl, rfl, hI⟩
  exact hs i s H hi hI

end Go.Proofs.YtpjkammmoaeheaaDoor.Aw

/- Plain: rows of flags, classes of bytes. Nothing of the program. -/
namespace Go.Proofs.YtpjkammmoaeheaaDoor.Aw

/-! ### Flags -/
/-- The first n flags that 'p' tells. -/
def bl (n : Nat) (p : Nat → Bool) : List Bool := (List.range n).map p
theorem bl_len (n : Nat) (p : Nat → Bool) : (bl n p).length = n := by simp [bl]
theorem bl_get {n : Nat} {p : Nat → Bool} {k : Nat} (h : k < n) : (bl n p)[k]? = some (p k) := by simp [bl, h]
theorem bl_congr {n : Nat} {p q : Nat → Bool} (h : ∀ k, k < n → p k = q k) : bl n p = bl n q := by
  apply List.ext_getElem?; intro k
  by_cases hk : k < n
  · rw [bl_get hk, bl_get hk, h k hk]
  · rw [List.getElem?_eq_none (by rw [bl_len]; omega), List.getElem?_eq_none (by rw [bl_len]; omega)]
theorem bl_of {n : Nat} {l : List Bool} {p : Nat → Bool} (hl : l.length = n) (h : ∀ k, k < n → l[k]? = some (p k)) : l = bl n p := by
  apply List.ext_getElem?; intro k
  by_cases hk : k < n
  · rw [bl_get hk, h k hk]
  · rw [List.getElem?_eq_none (by omega), List.getElem?_eq_none (by rw [bl_len]; omega)]
theorem bl_self (l : List Bool) : l = bl l.length (fun k => l[k]?.getD false) := bl_of rfl fun k hk => by rw [List.getElem?_eq_getElem hk]; simp
theorem bl_inj {n : Nat} {p q : Nat → Bool} (h : bl n p = bl n q) {k : Nat} (hk : k < n) : p k = q k := by
  have := congrArg (·[k]?) h
  simp only [bl_get hk] at this
  exact Option.some.inj this
theorem bl_set {n : Nat} {p : Nat → Bool} {k : Nat} {b : Bool} : (bl n p).set k b = bl n fun t => if t = k then b else p t := by
  apply List.ext_getElem?; intro t
  rw [List.getElem?_set]
  by_cases ht : t < n
  · by_cases hk : k = t
    · subst hk; rw [if_pos rfl, if_pos (by rw [bl_len]; exact ht), bl_get ht, if_pos rfl]
    · rw [if_neg hk, bl_get ht, bl_get ht, if_neg (fun h => hk h.symm)]
  · rw [List.getElem?_eq_none (l := bl n _) (i := t) (by rw [bl_len]; omega)]
    by_cases hk : k = t
    · subst hk; simp [bl_len, ht]
    · rw [if_neg hk, List.getElem?_eq_none (by rw [bl_len]; omega)]
theorem bl_rep (n : Nat) : List.replicate n false = bl n fun _ => false := bl_of (by simp) fun k hk => by simp [hk]
theorem map_set {α β : Type} (f : α → β) (l : List α) (k : Nat) (x : α) : (l.map f).set k (f x) = (l.set k x).map f := by rw [List.map_set]

/-! ### Classes -/
abbrev Cls := List (Int × Int)

/-- A right class. -/
def COk (c : Cls) : Prop := ∀ (i : Nat) (s : Int × Int), c[i]? = some s → 0 ≤ s.1 ∧ s.1 ≤ s.2 ∧ s.2 ≤ 255 ∧ ∀ p, i ≠ 0 → c[i - 1]? = some p → p.2 + 2 ≤ s.1
/-- The same of the first k. -/
def COkTo (c : Cls) (k : Nat) : Prop := ∀ (i : Nat) (s : Int × Int), i < k → c[i]? = some s → 0 ≤ s.1 ∧ s.1 ≤ s.2 ∧ s.2 ≤ 255 ∧ ∀ p, i ≠ 0 → c[i - 1]? = some p → p.2 + 2 ≤ s.1
theorem COkTo.all {c : Cls} (h : COkTo c c.length) : COk c := fun i s hs => h i s (List.getElem?_eq_some_iff.1 hs).1 hs
theorem COk.to {c : Cls} (h : COk c) (k : Nat) : COkTo c k := fun i s _ hs => h i s hs

theorem COk.sep {c : Cls} (h : COk c) : ∀ (d : Nat) (i : Nat) (s t : Int × Int), c[i]? = some s → c[i + d]? = some t → 2 * d ≤ t.1 - s.1 := by
  intro d
  induction d with
  | zero => intro i s t hs ht; rw [Nat.add_zero, hs] at ht; cases ht; omega
  | succ d ih =>
    intro i s t hs ht
    have hlt : i + d < c.length := by have := (List.getElem?_eq_some_iff.1 ht).1; omega
    obtain ⟨u, hu⟩ : ∃ u, c[i + d]? = some u := ⟨_, List.getElem?_eq_getElem hlt⟩
    have h1 := ih i s u hs hu
    have h2 := (h (i + (d + 1)) t ht).2.2.2 u (by omega) (by rw [show i + (d + 1) - 1 = i + d by omega]; exact hu)
    have h3 := (h (i + d) u hu).2.1
    omega
theorem COk.len {c : Cls} (h : COk c) : c.length ≤ 128 := by
  rcases Nat.lt_or_ge 128 c.length with hl | hl
  · exfalso
    obtain ⟨s, hs⟩ : ∃ s, c[0]? = some s := ⟨_, List.getElem?_eq_getElem (by omega)⟩
    obtain ⟨t, ht⟩ : ∃ t, c[128]? = some t := ⟨_, List.getElem?_eq_getElem (by omega)⟩
    have := h.sep 128 0 s t hs (by simpa using ht)
    have h1 := h 0 s hs
    have h2 := h 128 t ht
    omega
  · exact hl

/-- Whether a class has a byte. -/
def mk (c : Cls) (b : Nat) : Bool := c.any fun s => decide (s.1 ≤ (b : Int) ∧ (b : Int) ≤ s.2)
theorem mk_iff {c : Cls} {b : Nat} : mk c b = true ↔ ∃ s ∈ c, s.1 ≤ (b : Int) ∧ (b : Int) ≤ s.2 := by simp [mk]
theorem mk_append (c d : Cls) (b : Nat) : mk (c ++ d) b = (mk c b || mk d b) := by simp [mk]
theorem mk_nil (b : Nat) : mk [] b = false := rfl
theorem mk_one (s : Int × Int) (b : Nat) : mk [s] b = decide (s.1 ≤ (b : Int) ∧ (b : Int) ≤ s.2) := by simp [mk]
theorem mk_take {c : Cls} {i : Nat} {s : Int × Int} (h : c[i]? = some s) (b : Nat) : mk (c.take (i + 1)) b = (mk (c.take i) b || decide (s.1 ≤ (b : Int) ∧ (b : Int) ≤ s.2)) := by
  rw [List.take_add_one, h, mk_append]; simp [mk_one]

/-- What a byte adds to the class of those below it. -/
def clStep (p : Nat → Bool) (out : Cls) (b : Nat) : Cls :=
  if p b = true then
    match out.getLast? with
    | some (lo, hi) => if hi = (b : Int) - 1 then out.dropLast ++ [(lo, (b : Int))] else out ++ [((b : Int), (b : Int))]
    | none => [((b : Int), (b : Int))]
  else out
/-- The class of the bytes below k of which 'p' tells. -/
def clTo (p : Nat → Bool) : Nat → Cls
  | 0 => []
  | k + 1 => clStep p (clTo p k) k
def cls (p : Nat → Bool) : Cls := clTo p 256

theorem clStep_no {p : Nat → Bool} {c : Cls} {k : Nat} (h : p k = false) : clStep p c k = c := by simp [clStep, h]
theorem clStep_set {p : Nat → Bool} {d : Cls} {lo hi : Int} {k : Nat} (h : p k = true) (he : hi = (k : Int) - 1) : clStep p (d ++ [(lo, hi)]) k = d ++ [(lo, (k : Int))] := by simp [clStep, h, he]
theorem clStep_new {p : Nat → Bool} {c : Cls} {k : Nat} (h : p k = true) (hn : ∀ s, c.getLast? = some s → s.2 ≠ (k : Int) - 1) : clStep p c k = c ++ [((k : Int), (k : Int))] := by
  unfold clStep
  simp only [h, if_true]
  cases hl : c.getLast? with
  | none => have : c = [] := by simpa using hl
            subst this; rfl
  | some s => simp only; rw [if_neg (hn s hl)]
theorem last_split {α : Type} {l : List α} (h : l ≠ []) : ∃ d x, l = d ++ [x] := ⟨l.dropLast, l.getLast h, (List.dropLast_concat_getLast h).symm⟩

theorem clTo_congr {p q : Nat → Bool} : ∀ {k : Nat}, (∀ b, b < k → p b = q b) → clTo p k = clTo q k
  | 0, _ => rfl
  | k + 1, h => by
    have h1 := clTo_congr (p := p) (q := q) (k := k) fun b hb => h b (by omega)
    have h2 := h k (by omega)
    show clStep p (clTo p k) k = clStep q (clTo q k) k
    rw [h1]
    unfold clStep
    rw [h2]

/-- What holds of the class of the bytes below k. -/
structure ClInv (p : Nat → Bool) (k : Nat) (c : Cls) : Prop where
  ok : COk c
  hi : ∀ s, c.getLast? = some s → s.2 < k
  has : ∀ b, b < k → mk c b = p b
  far : ∀ b, k ≤ b → mk c b = false
  last : k ≠ 0 → p (k - 1) = true → ∃ s, c.getLast? = some s ∧ s.2 = (k : Int) - 1

theorem getLast?_get {α : Type} (l : List α) : l.getLast? = l[l.length - 1]? := List.getLast?_eq_getElem?

theorem mk_le {c : Cls} {k : Nat} (ok : COk c) (hi : ∀ s, c.getLast? = some s → s.2 < k) : ∀ s ∈ c, s.2 < k := by
  intro s hs
  obtain ⟨i, hsi⟩ := List.mem_iff_getElem?.1 hs
  have hi2 : i < c.length := (List.getElem?_eq_some_iff.1 hsi).1
  obtain ⟨t, ht⟩ : ∃ t, c[c.length - 1]? = some t := ⟨_, List.getElem?_eq_getElem (by omega)⟩
  have h1 := hi t (by rw [getLast?_get]; exact ht)
  by_cases he : i = c.length - 1
  · rw [he, ht] at hsi
    cases hsi
    exact h1
  · obtain ⟨u, hu⟩ : ∃ u, c[i + 1]? = some u := ⟨_, List.getElem?_eq_getElem (by omega)⟩
    have h2 := (ok (i + 1) u hu).2.2.2 s (by omega) (by simpa using hsi)
    have h3 := ok.sep (c.length - 1 - (i + 1)) (i + 1) u t hu (by rw [show i + 1 + (c.length - 1 - (i + 1)) = c.length - 1 by omega]; exact ht)
    have h4 := ok _ t ht
    have h5 := ok _ u hu
    omega

theorem clInv (p : Nat → Bool) : ∀ k, k ≤ 256 → ClInv p k (clTo p k) := by
  intro k
  induction k with
  | zero => intro _; exact ⟨fun i s h => by simp [clTo] at h, fun s h => by simp [clTo] at h, fun b hb => by omega, fun b _ => rfl, fun h => absurd rfl h⟩
  | succ k ih =>
    intro hk
    obtain ⟨ok, hi, has, far, last⟩ := ih (by omega)
    simp only [clTo]
    generalize clTo p k = c at ok hi has far last
    have hle := mk_le ok hi
    unfold clStep
    by_cases hp : p k = true
    · simp only [hp, if_true]
      have new : (∀ s, c.getLast? = some s → s.2 ≠ (k : Int) - 1) → ClInv p (k + 1) (c ++ [((k : Int), (k : Int))]) := by
        intro hne
        refine ⟨?_, ?_, ?_, ?_, ?_⟩
        · intro i s hs
          by_cases hi2 : i < c.length
          · rw [List.getElem?_append_left hi2] at hs
            have := ok i s hs
            refine ⟨this.1, this.2.1, this.2.2.1, fun q h0 hq => this.2.2.2 q h0 ?_⟩
            rwa [List.getElem?_append_left (by omega)] at hq
          · rw [List.getElem?_append_right (by omega)] at hs
            have he : i = c.length := by
              rcases Nat.lt_or_ge (i - c.length) 1 with h | h
              · omega
              · rw [List.getElem?_eq_none (by simpa using h)] at hs; cases hs
            subst he
            simp at hs
            subst hs
            refine ⟨by simp, by simp, by simp; omega, fun q h0 hq => ?_⟩
            rw [List.getElem?_append_left (by omega)] at hq
            have hl : c.getLast? = some q := by rw [getLast?_get]; exact hq
            have h1 := hi q hl
            have h2 := hne q hl
            simp only
            omega
        · intro s hs; simp at hs; subst hs; simp only; omega
        · intro b hb
          rw [mk_append, mk_one]
          by_cases hbk : b = k
          · subst hbk; simp [hp]
          · rw [has b (by omega)]
            have : decide ((k : Int) ≤ (b : Int) ∧ (b : Int) ≤ (k : Int)) = false := decide_eq_false (by omega)
            rw [this, Bool.or_false]
        · intro b hb
          rw [mk_append, mk_one, far b (by omega)]
          exact decide_eq_false (by omega)
        · intro _ _; exact ⟨((k : Int), (k : Int)), by simp, by simp⟩
      cases hl : c.getLast? with
      | none =>
        have : c = [] := by simpa using hl
        subst this
        simpa using new (by simp)
      | some s =>
        obtain ⟨lo, hh⟩ := s
        simp only
        by_cases he : hh = (k : Int) - 1
        · simp only [he, if_true]
          have hc : c = c.dropLast ++ [(lo, hh)] := by
            have hne : c ≠ [] := by rintro rfl; simp at hl
            have h1 := List.dropLast_concat_getLast hne
            have h2 := List.getLast?_eq_some_getLast hne
            rw [hl] at h2
            rw [← Option.some.inj h2] at h1
            exact h1.symm
          generalize hd : c.dropLast = d at hc
          subst hc
          subst he
          have hlast : (d ++ [(lo, (k : Int) - 1)])[d.length]? = some (lo, (k : Int) - 1) := by simp
          have h0 := ok _ _ hlast
          refine ⟨?_, ?_, ?_, ?_, ?_⟩
          · intro i s hs
            by_cases hi2 : i < d.length
            · rw [List.getElem?_append_left hi2] at hs
              have := ok i s (by rw [List.getElem?_append_left hi2]; exact hs)
              refine ⟨this.1, this.2.1, this.2.2.1, fun q hq0 hq => this.2.2.2 q hq0 ?_⟩
              rw [List.getElem?_append_left (by omega)] at hq ⊢
              exact hq
            · rw [List.getElem?_append_right (by omega)] at hs
              have he : i = d.length := by
                rcases Nat.lt_or_ge (i - d.length) 1 with h | h
                · omega
                · rw [List.getElem?_eq_none (by simpa using h)] at hs; cases hs
              subst he
              simp at hs
              subst hs
              refine ⟨h0.1, by simp only at h0 ⊢; omega, by simp only; omega, fun q hq0 hq => ?_⟩
              have := h0.2.2.2 q hq0 (by rw [List.getElem?_append_left (by omega)] at hq ⊢; exact hq)
              exact this
          · intro s hs; simp at hs; subst hs; simp only; omega
          · intro b hb
            rw [mk_append, mk_one]
            have hb2 : b < k → (mk d b || decide (lo ≤ (b : Int) ∧ (b : Int) ≤ (k : Int) - 1)) = p b := fun h => by have := has b h; rwa [mk_append, mk_one] at this
            by_cases hbk : b = k
            · subst hbk
              simp only [hp]
              have : decide ((lo : Int) ≤ (b : Int) ∧ (b : Int) ≤ (b : Int)) = true := decide_eq_true (by simp only at h0; omega)
              rw [this, Bool.or_true]
            · have h1 := hb2 (by omega)
              rw [← h1]
              congr 1
              apply decide_eq_decide.2
              omega
          · intro b hb
            have h1 := far b (by omega)
            rw [mk_append, mk_one] at h1 ⊢
            simp only [Bool.or_eq_false_iff] at h1 ⊢
            exact ⟨h1.1, decide_eq_false (by omega)⟩
          · intro _ _; exact ⟨(lo, (k : Int)), by simp, by simp⟩
        · simp only [he, if_false]
          exact new fun s hs => by rw [hl] at hs; cases hs; exact he
    · have hp' : p k = false := by simpa using hp
      simp only [hp', Bool.false_eq_true, if_false]
      refine ⟨ok, fun s hs => by have := hi s hs; omega, ?_, fun b hb => far b (by omega), ?_⟩
      · intro b hb
        by_cases hbk : b = k
        · subst hbk; rw [far b (Nat.le_refl _), hp']
        · exact has b (by omega)
      · intro _ h; simp [hp'] at h

theorem cls_ok (p : Nat → Bool) : COk (cls p) := (clInv p 256 (Nat.le_refl _)).ok
theorem mk_cls (p : Nat → Bool) {b : Nat} (hb : b < 256) : mk (cls p) b = p b := (clInv p 256 (Nat.le_refl _)).has b hb
theorem cls_len (p : Nat → Bool) (k : Nat) (hk : k ≤ 256) : (clTo p k).length ≤ 128 := (clInv p k hk).ok.len
theorem cls_ne {p : Nat → Bool} {b : Nat} (hb : b < 256) (h : p b = true) : cls p ≠ [] := by
  intro he
  have := mk_cls p hb
  rw [he, mk_nil, h] at this
  cases this

end Go.Proofs.YtpjkammmoaeheaaDoor.Aw

/- Plain: nodes of expressions; which lists of nodes are right. Nothing of the program. -/
namespace Go.Proofs.YtpjkammmoaeheaaDoor.Aw

structure Nd where
  op : Int
  set : Cls
  kids : List Int
  mn : Int
  mx : Int

def kidsN (op : Int) : Nat := if op = 3 ∨ op = 4 then 2 else if 5 ≤ op ∧ op ≤ 8 then 1 else 0

structure NodeOk (n : Nd) (place : Nat) : Prop where
  op1 : 1 ≤ n.op
  op8 : n.op ≤ 8
  len : n.kids.length = kidsN n.op
  kid : ∀ k ∈ n.kids, 0 ≤ k ∧ k < (place : Int)
  set : n.op = 2 → COk n.set ∧ n.set ≠ []
  noset : n.op ≠ 2 → n.set = []
  times : n.op = 8 → 0 ≤ n.mn ∧ n.mn ≤ 30 ∧ (n.mx = -1 ∨ n.mn ≤ n.mx ∧ 1 ≤ n.mx ∧ n.mx ≤ 30)
  notimes : n.op ≠ 8 → n.mn = 0 ∧ n.mx = 0

theorem kidsN_le (op : Int) : kidsN op ≤ 2 := by
  unfold kidsN; split
  · omega
  · split <;> omega

/-! ### How often a node is a kid; how deep it lies -/
def cntK (ks : List Int) (j : Nat) : Nat := (ks.filter fun k => k.toNat == j).length
theorem cntK_nil (j : Nat) : cntK [] j = 0 := rfl
theorem cntK_snoc (ks : List Int) (k : Int) (j : Nat) : cntK (ks ++ [k]) j = cntK ks j + if k.toNat = j then 1 else 0 := by
  unfold cntK
  rw [List.filter_append, List.length_append]
  congr 1
  by_cases h : k.toNat = j <;> simp [h]
theorem cntK_le (ks : List Int) (j : Nat) : cntK ks j ≤ ks.length := List.length_filter_le _ _
theorem cntK_take {ks : List Int} {i : Nat} {k : Int} (h : ks[i]? = some k) (j : Nat) : cntK (ks.take (i + 1)) j = cntK (ks.take i) j + if k.toNat = j then 1 else 0 := by
  rw [List.take_add_one, h]; exact cntK_snoc _ _ _
theorem cntK_zero {ks : List Int} {j : Nat} (h : ∀ k ∈ ks, 0 ≤ k ∧ k < (j : Int)) : cntK ks j = 0 := by
  unfold cntK
  rw [List.length_eq_zero_iff, List.filter_eq_nil_iff]
  intro k hk
  have := h k hk
  simp; omega

/-- Over some nodes. -/
def cnt (x : List Nd) (j : Nat) : Nat := (x.map fun n => cntK n.kids j).sum
theorem cnt_append (x y : List Nd) (j : Nat) : cnt (x ++ y) j = cnt x j + cnt y j := by simp [cnt]
theorem cnt_one (n : Nd) (j : Nat) : cnt [n] j = cntK n.kids j := by simp [cnt]
theorem cnt_take {x : List Nd} {i : Nat} {n : Nd} (h : x[i]? = some n) (j : Nat) : cnt (x.take (i + 1)) j = cnt (x.take i) j + cntK n.kids j := by
  rw [List.take_add_one, h]; simp only [Option.toList_some, cnt_append, cnt_one]
theorem cnt_drop {x : List Nd} {i : Nat} {n : Nd} (h : x[i]? = some n) (j : Nat) : cnt (x.drop i) j = cntK n.kids j + cnt (x.drop (i + 1)) j := by
  obtain ⟨hi, rfl⟩ := List.getElem?_eq_some_iff.1 h
  rw [List.drop_eq_getElem_cons hi, show x[i] :: x.drop (i + 1) = [x[i]] ++ x.drop (i + 1) from rfl, cnt_append, cnt_one]
theorem cnt_le {x : List Nd} (h : ∀ n ∈ x, n.kids.length ≤ 2) (j : Nat) : cnt x j ≤ 2 * x.length := by
  induction x with
  | nil => simp [cnt]
  | cons n x ih =>
    have h1 := ih fun m hm => h m (by simp [hm])
    have h2 := h n (by simp)
    have h3 := cntK_le n.kids j
    rw [show n :: x = [n] ++ x from rfl, cnt_append, cnt_one, List.length_append]
    simp; omega

/-- What a node's kids are told of how deep they lie. -/
def dpK (f : Nat → Nat) (i : Nat) (ks : List Int) (j : Nat) : Nat := if cntK ks j = 0 then f j else f i + 1
def dpAt (x : List Nd) : Nat → Nat → Nat
  | 0 => fun _ => 0
  | t + 1 => match x[x.length - 1 - t]? with
    | some n => dpK (dpAt x t) (x.length - 1 - t) n.kids
    | none => dpAt x t
theorem dpAt_le (x : List Nd) : ∀ t j, dpAt x t j ≤ t
  | 0, j => Nat.le_refl _
  | t + 1, j => by
    have h1 := dpAt_le x t j
    have h2 := dpAt_le x t (x.length - 1 - t)
    cases h : x[x.length - 1 - t]? with
    | some n => simp only [dpAt, h, dpK]; split <;> omega
    | none => simp only [dpAt, h]; omega

structure RxOk (x : List Nd) : Prop where
  pos : 1 ≤ x.length
  most : x.length ≤ 300
  node : ∀ i n, x[i]? = some n → NodeOk n i
  once : ∀ i, i < x.length - 1 → cnt (x.drop (i + 1)) i = 1
  deep : ∀ i, i < x.length → dpAt x (x.length - 1 - i) i ≤ 150

/-- The nodes up to one are no parents of it. -/
theorem cnt_low {x : List Nd} (h : ∀ i n, x[i]? = some n → NodeOk n i) (j : Nat) : ∀ i, i ≤ j + 1 → cnt (x.take i) j = 0 := by
  intro i
  induction i with
  | zero => intro _; rfl
  | succ i ih =>
    intro hi
    cases hx : x[i]? with
    | none => rw [List.take_add_one, hx]; simpa using ih (by omega)
    | some n =>
      rw [cnt_take hx, ih (by omega), cntK_zero]
      intro k hk
      have := (h i n hx).kid k hk
      omega
theorem cnt_all {x : List Nd} (h : ∀ i n, x[i]? = some n → NodeOk n i) (j : Nat) : cnt x j = cnt (x.drop (j + 1)) j := by
  have := cnt_append (x.take (j + 1)) (x.drop (j + 1)) j
  rw [List.take_append_drop, cnt_low h j (j + 1) (Nat.le_refl _)] at this
  omega

/-! ### Lists that a function tells -/
def gl {α : Type} (n : Nat) (g : Nat → α) : List α := (List.range n).map g
theorem gl_len {α : Type} (n : Nat) (g : Nat → α) : (gl n g).length = n := by simp [gl]
theorem gl_get {α : Type} {n : Nat} {g : Nat → α} {k : Nat} (h : k < n) : (gl n g)[k]? = some (g k) := by simp [gl, h]
theorem gl_congr {α : Type} {n : Nat} {p q : Nat → α} (h : ∀ k, k < n → p k = q k) : gl n p = gl n q := by
  apply List.ext_getElem?; intro k
  by_cases hk : k < n
  · rw [gl_get hk, gl_get hk, h k hk]
  · rw [List.getElem?_eq_none (by rw [gl_len]; omega), List.getElem?_eq_none (by rw [gl_len]; omega)]
theorem gl_set {α : Type} {n : Nat} {p : Nat → α} (q : Nat → α) {k : Nat} {b : α} (hq : ∀ t, t < n → q t = if t = k then b else p t) : (gl n p).set k b = gl n q := by
  apply List.ext_getElem?; intro t
  rw [List.getElem?_set]
  by_cases ht : t < n
  · rw [gl_get (g := q) ht, hq t ht]
    by_cases hk : k = t
    · subst hk; rw [if_pos rfl, if_pos (by rw [gl_len]; exact ht), if_pos rfl]
    · rw [if_neg hk, gl_get ht, if_neg (fun h => hk h.symm)]
  · rw [List.getElem?_eq_none (l := gl n q) (by rw [gl_len]; omega)]
    by_cases hk : k = t
    · subst hk; simp [gl_len, ht]
    · rw [if_neg hk, List.getElem?_eq_none (by rw [gl_len]; omega)]
theorem gl_rep {α : Type} (n : Nat) (a : α) : List.replicate n a = gl n fun _ => a := by
  apply List.ext_getElem?; intro k
  by_cases hk : k < n
  · rw [gl_get hk]; simp [hk]
  · rw [List.getElem?_eq_none (by simp; omega), List.getElem?_eq_none (by rw [gl_len]; omega)]

end Go.Proofs.YtpjkammmoaeheaaDoor.Aw

/- Plain: how many nodes lie under one; what is told of a node by what is told of its kids. Nothing of the program. -/
namespace Go.Proofs.YtpjkammmoaeheaaDoor.Aw

/-! ### A function of nodes, by fuel -/
def byKids {α : Type} (x : List Nd) (g : Nd → List α → α) (d : α) : Nat → Nat → α
  | 0, _ => d
  | k + 1, i => match x[i]? with
    | some n => g n (n.kids.map fun z => byKids x g d k z.toNat)
    | none => d

theorem byKids_stable {α : Type} {x : List Nd} (h : ∀ i n, x[i]? = some n → NodeOk n i) (g : Nd → List α → α) (d : α) : ∀ (k m i : Nat), i < k → i < m → byKids x g d k i = byKids x g d m i := by
  intro k
  induction k with
  | zero => intro m i h0; omega
  | succ k ih =>
    intro m i hk hm
    cases m with
    | zero => omega
    | succ m =>
      simp only [byKids]
      cases hx : x[i]? with
      | none => rfl
      | some n =>
        simp only
        congr 1
        apply List.map_congr_left
        intro z hz
        have := (h i n hx).kid z hz
        exact ih m z.toNat (by omega) (by omega)

/-- What is told of a node. -/
def told {α : Type} (x : List Nd) (g : Nd → List α → α) (d : α) (i : Nat) : α := byKids x g d (i + 1) i
theorem told_eq {α : Type} {x : List Nd} (h : ∀ i n, x[i]? = some n → NodeOk n i) (g : Nd → List α → α) (d : α) {i : Nat} {n : Nd} (hn : x[i]? = some n) : told x g d i = g n (n.kids.map fun z => told x g d z.toNat) := by
  unfold told
  rw [byKids]
  simp only [hn]
  congr 1
  apply List.map_congr_left
  intro z hz
  have := (h i n hn).kid z hz
  exact byKids_stable h g d i (z.toNat + 1) z.toNat (by omega) (by omega)

/-! ### Sums over the nodes below -/
def sumTo (f : Nat → Nat) : Nat → Nat
  | 0 => 0
  | k + 1 => sumTo f k + f k
theorem sumTo_congr {f g : Nat → Nat} : ∀ {k : Nat}, (∀ j, j < k → f j = g j) → sumTo f k = sumTo g k
  | 0, _ => rfl
  | k + 1, h => by simp only [sumTo, sumTo_congr (k := k) fun j hj => h j (by omega), h k (by omega)]
theorem sumTo_add (f g : Nat → Nat) : ∀ k, sumTo (fun j => f j + g j) k = sumTo f k + sumTo g k
  | 0 => rfl
  | k + 1 => by simp only [sumTo, sumTo_add f g k]; omega
theorem sumTo_zero : ∀ k, sumTo (fun _ => 0) k = 0
  | 0 => rfl
  | k + 1 => by simp only [sumTo, sumTo_zero k]
theorem sumTo_one (f : Nat → Nat) (i : Nat) : ∀ k, i < k → sumTo (fun j => (if i = j then 1 else 0) * f j) k = f i
  | 0, h => by omega
  | k + 1, h => by
    simp only [sumTo]
    by_cases hk : i = k
    · subst hk
      rw [if_pos rfl, Nat.one_mul, sumTo_congr (g := fun _ => 0) (fun j hj => by rw [if_neg (by omega), Nat.zero_mul]), sumTo_zero]
      omega
    · rw [sumTo_one f i k (by omega), if_neg hk, Nat.zero_mul]; rfl
theorem cntK_cons (z : Int) (ks : List Int) (j : Nat) : cntK (z :: ks) j = (if z.toNat = j then 1 else 0) + cntK ks j := by
  unfold cntK
  rw [List.filter_cons]
  by_cases h : z.toNat = j
  · simp [h]; omega
  · simp [h]
theorem sum_kids (f : Nat → Nat) (i : Nat) : ∀ (ks : List Int), (∀ z ∈ ks, 0 ≤ z ∧ z < (i : Int)) → (ks.map fun z => f z.toNat).sum = sumTo (fun j => cntK ks j * f j) i
  | [], _ => by
    rw [sumTo_congr (g := fun _ => 0) (fun j _ => by simp [cntK]), sumTo_zero]; rfl
  | z :: ks, h => by
    have hz := h z (by simp)
    rw [List.map_cons, List.sum_cons, sum_kids f i ks fun y hy => h y (by simp [hy])]
    rw [sumTo_congr (f := fun j => cntK (z :: ks) j * f j) (g := fun j => (if z.toNat = j then 1 else 0) * f j + cntK ks j * f j) (fun j _ => by rw [cntK_cons, Nat.add_mul]), sumTo_add, sumTo_one f z.toNat i (by omega)]

/-- In a right expression each node counts once. -/
theorem tree_bound {x : List Nd} (ok : RxOk x) (a : Nat → Nat) (f : Nat → Nat) (hf : ∀ i n, x[i]? = some n → f i ≤ a i + (n.kids.map fun z => f z.toNat).sum) : f (x.length - 1) ≤ sumTo a x.length := by
  have key : ∀ t, t ≤ x.length → f (x.length - 1) + sumTo a (x.length - t) ≤ sumTo a x.length + sumTo (fun j => (cnt (x.drop (x.length - t)) j + if j = x.length - 1 then 1 else 0) * f j) (x.length - t) := by
    intro t
    induction t with
    | zero =>
      intro _
      rw [Nat.sub_zero, sumTo_congr (f := fun j => (cnt (x.drop x.length) j + if j = x.length - 1 then 1 else 0) * f j) (g := fun j => (if x.length - 1 = j then 1 else 0) * f j) (fun j _ => by
        rw [List.drop_length]; simp only [cnt, List.map_nil, List.sum_nil, Nat.zero_add]; congr 1; by_cases h : j = x.length - 1 <;> simp [h, eq_comm]), sumTo_one f _ _ (by have := ok.pos; omega)]
      omega
    | succ t ih =>
      intro ht
      have h1 := ih (by omega)
      have e : x.length - t = (x.length - (t + 1)) + 1 := by omega
      generalize hi : x.length - (t + 1) = i at e ⊢
      have hil : i < x.length := by omega
      obtain ⟨n, hn⟩ : ∃ n, x[i]? = some n := ⟨_, List.getElem?_eq_getElem hil⟩
      have okn := ok.node i n hn
      rw [e] at h1
      simp only [sumTo] at h1
      have hone : cnt (x.drop (i + 1)) i + (if i = x.length - 1 then 1 else 0) = 1 := by
        by_cases h : i = x.length - 1
        · rw [if_pos h, List.drop_of_length_le (by omega)]; rfl
        · rw [if_neg h, ok.once i (by omega)]
      rw [hone, Nat.one_mul] at h1
      have h2 := hf i n hn
      rw [sum_kids f i n.kids okn.kid] at h2
      have h3 : sumTo (fun j => (cnt (x.drop i) j + if j = x.length - 1 then 1 else 0) * f j) i = sumTo (fun j => cntK n.kids j * f j) i + sumTo (fun j => (cnt (x.drop (i + 1)) j + if j = x.length - 1 then 1 else 0) * f j) i := by
        rw [← sumTo_add]
        apply sumTo_congr
        intro j _
        rw [cnt_drop hn, ← Nat.add_mul, Nat.add_assoc]
      rw [h3]
      omega
  have := key x.length (Nat.le_refl _)
  rw [Nat.sub_self] at this
  simpa [sumTo] using this

theorem sumTo_const (c : Nat) : ∀ k, sumTo (fun _ => c) k = k * c
  | 0 => by simp [sumTo]
  | k + 1 => by simp only [sumTo, sumTo_const c k, Nat.succ_mul]

/-- How many nodes lie under one, itself among them. -/
def size (x : List Nd) (i : Nat) : Nat := told x (fun _ l => 1 + l.sum) 0 i
theorem size_eq {x : List Nd} (h : ∀ i n, x[i]? = some n → NodeOk n i) {i : Nat} {n : Nd} (hn : x[i]? = some n) : size x i = 1 + (n.kids.map fun z => size x z.toNat).sum := told_eq h _ _ hn
theorem size_root {x : List Nd} (ok : RxOk x) : size x (x.length - 1) ≤ 300 := by
  have := tree_bound ok (fun _ => 1) (size x) fun i n hn => by rw [size_eq ok.node hn]; omega
  rw [sumTo_const] at this
  have := ok.most
  omega

end Go.Proofs.YtpjkammmoaeheaaDoor.Aw

/- Plain: where texts of an expression end. Nothing of the program. -/
set_option linter.unusedVariables false
set_option linter.unusedSimpArgs false
namespace Go.Proofs.YtpjkammmoaeheaaDoor.Aw

abbrev Rel := Nat → Nat → Prop

def pw (R : Rel) : Nat → Rel
  | 0, a, b => a = b
  | k + 1, a, b => ∃ m, pw R k a m ∧ R m b

theorem pw_add {R : Rel} {a b : Nat} {k : Nat} (h : pw R k a b) : ∀ {j : Nat} {c : Nat}, pw R j b c → pw R (k + j) a c
  | 0, c, hj => by cases hj; exact h
  | j + 1, c, ⟨m, h1, h2⟩ => ⟨m, pw_add h h1, h2⟩
theorem pw_split {R : Rel} {a : Nat} {k : Nat} : ∀ {j : Nat} {c : Nat}, pw R (k + j) a c → ∃ b, pw R k a b ∧ pw R j b c
  | 0, c, h => ⟨c, h, rfl⟩
  | j + 1, c, ⟨m, h1, h2⟩ => by
    obtain ⟨b, h3, h4⟩ := pw_split h1
    exact ⟨b, h3, m, h4, h2⟩
theorem pw_one {R : Rel} {a b : Nat} : pw R 1 a b ↔ R a b := ⟨fun ⟨m, h1, h2⟩ => by cases h1; exact h2, fun h => ⟨a, rfl, h⟩⟩
theorem pw_le {R : Rel} {n : Nat} (hR : ∀ a b, a ≤ n → R a b → a ≤ b ∧ b ≤ n) : ∀ (k : Nat) {a b : Nat}, a ≤ n → pw R k a b → a ≤ b ∧ b ≤ n
  | 0, a, b, ha, h => by cases h; omega
  | k + 1, a, b, ha, ⟨m, h1, h2⟩ => by
    have h3 := pw_le hR k ha h1
    have h4 := hR m b h3.2 h2
    omega

/-- What a node's texts do, by what its kids' do. -/
def gEn (t : List UInt8) (nd : Nd) (l : List Rel) : Rel := fun a b =>
  (nd.op = 1 ∧ a = b) ∨
  (nd.op = 2 ∧ ∃ c, t[a]? = some c ∧ mk nd.set c.toNat = true ∧ b = a + 1) ∨
  (nd.op = 3 ∧ ∃ p q m, l = [p, q] ∧ p a m ∧ q m b) ∨
  (nd.op = 4 ∧ ∃ p q, l = [p, q] ∧ (p a b ∨ q a b)) ∨
  (nd.op = 5 ∧ ∃ p k, l = [p] ∧ pw p k a b) ∨
  (nd.op = 6 ∧ ∃ p k, l = [p] ∧ pw p (k + 1) a b) ∨
  (nd.op = 7 ∧ ∃ p, l = [p] ∧ (a = b ∨ p a b)) ∨
  (nd.op = 8 ∧ ∃ p k, l = [p] ∧ nd.mn.toNat ≤ k ∧ (nd.mx = -1 ∨ (k : Int) ≤ nd.mx) ∧ pw p k a b)

def En (x : List Nd) (t : List UInt8) (i : Nat) : Rel := told x (gEn t) (fun _ _ => False) i

section
variable {x : List Nd} {t : List UInt8} (ok : ∀ i n, x[i]? = some n → NodeOk n i) {i : Nat} {nd : Nd} (hn : x[i]? = some nd)
include ok hn
theorem En_eq : En x t i = gEn t nd (nd.kids.map fun z => En x t z.toNat) := told_eq ok _ _ hn
theorem En1 (h : nd.op = 1) {a b : Nat} : En x t i a b ↔ a = b := by rw [En_eq ok hn]; simp [gEn, h]
theorem En2 (h : nd.op = 2) {a b : Nat} : En x t i a b ↔ ∃ c, t[a]? = some c ∧ mk nd.set c.toNat = true ∧ b = a + 1 := by rw [En_eq ok hn]; simp [gEn, h]
theorem En3 (h : nd.op = 3) {y z : Int} (hk : nd.kids = [y, z]) {a b : Nat} : En x t i a b ↔ ∃ m, En x t y.toNat a m ∧ En x t z.toNat m b := by
  rw [En_eq ok hn]; simp [gEn, h, hk]
  exact ⟨fun ⟨p, q, ⟨e1, e2⟩, h⟩ => by subst e1 e2; exact h, fun h => ⟨_, _, ⟨rfl, rfl⟩, h⟩⟩
theorem En4 (h : nd.op = 4) {y z : Int} (hk : nd.kids = [y, z]) {a b : Nat} : En x t i a b ↔ En x t y.toNat a b ∨ En x t z.toNat a b := by
  rw [En_eq ok hn]; simp [gEn, h, hk]
  exact ⟨fun ⟨p, q, ⟨e1, e2⟩, h⟩ => by subst e1 e2; exact h, fun h => ⟨_, _, ⟨rfl, rfl⟩, h⟩⟩
theorem En5 (h : nd.op = 5) {z : Int} (hk : nd.kids = [z]) {a b : Nat} : En x t i a b ↔ ∃ k, pw (En x t z.toNat) k a b := by rw [En_eq ok hn]; simp [gEn, h, hk]
theorem En6 (h : nd.op = 6) {z : Int} (hk : nd.kids = [z]) {a b : Nat} : En x t i a b ↔ ∃ k, pw (En x t z.toNat) (k + 1) a b := by rw [En_eq ok hn]; simp [gEn, h, hk]
theorem En7 (h : nd.op = 7) {z : Int} (hk : nd.kids = [z]) {a b : Nat} : En x t i a b ↔ a = b ∨ En x t z.toNat a b := by rw [En_eq ok hn]; simp [gEn, h, hk]
theorem En8 (h : nd.op = 8) {z : Int} (hk : nd.kids = [z]) {a b : Nat} : En x t i a b ↔ ∃ k, nd.mn.toNat ≤ k ∧ (nd.mx = -1 ∨ (k : Int) ≤ nd.mx) ∧ pw (En x t z.toNat) k a b := by rw [En_eq ok hn]; simp [gEn, h, hk]
end

theorem kids1 {n : Nd} {i : Nat} (ok : NodeOk n i) (h : n.op = 5 ∨ n.op = 6 ∨ n.op = 7 ∨ n.op = 8) : ∃ z, n.kids = [z] := by
  have := ok.len
  unfold kidsN at this
  rw [if_neg (by omega), if_pos (by omega)] at this
  match hk : n.kids, this with
  | [z], _ => exact ⟨z, rfl⟩
theorem kids2 {n : Nd} {i : Nat} (ok : NodeOk n i) (h : n.op = 3 ∨ n.op = 4) : ∃ y z, n.kids = [y, z] := by
  have := ok.len
  unfold kidsN at this
  rw [if_pos h] at this
  match hk : n.kids, this with
  | [y, z], _ => exact ⟨y, z, rfl⟩

/-- Ends lie behind, within the text. -/
theorem En_le {x : List Nd} {t : List UInt8} (ok : ∀ i n, x[i]? = some n → NodeOk n i) : ∀ (i : Nat), i < x.length → ∀ a b, a ≤ t.length → En x t i a b → a ≤ b ∧ b ≤ t.length := by
  intro i
  induction i using Nat.strongRecOn with
  | _ i ih =>
    intro hi a b ha h
    obtain ⟨nd, hn⟩ : ∃ nd, x[i]? = some nd := ⟨_, List.getElem?_eq_getElem hi⟩
    have okn := ok i nd hn
    have o1 := okn.op1
    have o8 := okn.op8
    have kid : ∀ z ∈ nd.kids, ∀ a b, a ≤ t.length → En x t z.toNat a b → a ≤ b ∧ b ≤ t.length := fun z hz => by
      have := okn.kid z hz
      exact ih z.toNat (by omega) (by omega)
    rcases (show nd.op = 1 ∨ nd.op = 2 ∨ nd.op = 3 ∨ nd.op = 4 ∨ nd.op = 5 ∨ nd.op = 6 ∨ nd.op = 7 ∨ nd.op = 8 by omega) with h1 | h1 | h1 | h1 | h1 | h1 | h1 | h1
    · rw [En1 ok hn h1] at h; omega
    · obtain ⟨c, h2, h3, h4⟩ := (En2 ok hn h1).1 h
      have := (List.getElem?_eq_some_iff.1 h2).1
      omega
    · obtain ⟨y, z, hk⟩ := kids2 okn (.inl h1)
      obtain ⟨m, h2, h3⟩ := (En3 ok hn h1 hk).1 h
      have h4 := kid y (by rw [hk]; simp) a m ha h2
      have h5 := kid z (by rw [hk]; simp) m b h4.2 h3
      omega
    · obtain ⟨y, z, hk⟩ := kids2 okn (.inr h1)
      rcases (En4 ok hn h1 hk).1 h with h2 | h2
      · exact kid y (by rw [hk]; simp) a b ha h2
      · exact kid z (by rw [hk]; simp) a b ha h2
    · obtain ⟨z, hk⟩ := kids1 okn (by omega)
      obtain ⟨k, h2⟩ := (En5 ok hn h1 hk).1 h
      exact pw_le (kid z (by rw [hk]; simp)) k ha h2
    · obtain ⟨z, hk⟩ := kids1 okn (by omega)
      obtain ⟨k, h2⟩ := (En6 ok hn h1 hk).1 h
      exact pw_le (kid z (by rw [hk]; simp)) _ ha h2
    · obtain ⟨z, hk⟩ := kids1 okn (by omega)
      rcases (En7 ok hn h1 hk).1 h with h2 | h2
      · omega
      · exact kid z (by rw [hk]; simp) a b ha h2
    · obtain ⟨z, hk⟩ := kids1 okn (by omega)
      obtain ⟨k, _, _, h2⟩ := (En8 ok hn h1 hk).1 h
      exact pw_le (kid z (by rw [hk]; simp)) _ ha h2

/-! ### Sets of places -/
abbrev PS := Nat → Prop
noncomputable def dB (P : PS) : Nat → Bool := fun b => by classical exact decide (P b)
theorem dB_iff {P : PS} {b : Nat} : dB P b = true ↔ P b := by unfold dB; simp
theorem dB_false {P : PS} {b : Nat} : dB P b = false ↔ ¬ P b := by unfold dB; simp
theorem dB_congr {P Q : PS} {b : Nat} (h : P b ↔ Q b) : dB P b = dB Q b := by rw [Bool.eq_iff_iff, dB_iff, dB_iff]; exact h
theorem bl_dB {n : Nat} {P Q : PS} (h : ∀ b, b < n → (P b ↔ Q b)) : bl n (dB P) = bl n (dB Q) := bl_congr fun b hb => dB_congr (h b hb)
theorem bl_dB' {n : Nat} {p : Nat → Bool} {Q : PS} (h : ∀ b, b < n → (p b = true ↔ Q b)) : bl n p = bl n (dB Q) := bl_congr fun b hb => by rw [Bool.eq_iff_iff, dB_iff]; exact h b hb

def img (R : Rel) (P : PS) : PS := fun b => ∃ a, P a ∧ R a b
/-- At most t times. -/
def upTo (R : Rel) (P : PS) (t : Nat) : PS := fun b => ∃ k, k ≤ t ∧ ∃ a, P a ∧ pw R k a b
def star (R : Rel) (P : PS) : PS := fun b => ∃ k a, P a ∧ pw R k a b

theorem upTo_zero {R : Rel} {P : PS} {b : Nat} : upTo R P 0 b ↔ P b := ⟨fun ⟨k, hk, a, ha, h⟩ => by
  have : k = 0 := by omega
  subst this; cases h; exact ha, fun h => ⟨0, by omega, b, h, rfl⟩⟩
theorem upTo_succ {R : Rel} {P : PS} {t b : Nat} : upTo R P (t + 1) b ↔ upTo R P t b ∨ ∃ a, upTo R P t a ∧ R a b := by
  constructor
  · rintro ⟨k, hk, a, ha, h⟩
    by_cases hkt : k ≤ t
    · exact .inl ⟨k, hkt, a, ha, h⟩
    · have : k = t + 1 := by omega
      subst this
      obtain ⟨m, h1, h2⟩ := h
      exact .inr ⟨m, ⟨t, by omega, a, ha, h1⟩, h2⟩
  · rintro (⟨k, hk, a, ha, h⟩ | ⟨m, ⟨k, hk, a, ha, h⟩, h2⟩)
    · exact ⟨k, by omega, a, ha, h⟩
    · exact ⟨k + 1, by omega, a, ha, m, h, h2⟩
theorem upTo_closed {R : Rel} {P : PS} {t : Nat} (h : ∀ b, (∃ a, upTo R P t a ∧ R a b) → upTo R P t b) : ∀ (s : Nat) (b : Nat), upTo R P (t + s) b → upTo R P t b
  | 0, _, hb => hb
  | s + 1, b, hb => by
    rcases upTo_succ.1 (show upTo R P ((t + s) + 1) b from hb) with h1 | ⟨a, h1, h2⟩
    · exact upTo_closed h s b h1
    · exact h b ⟨a, upTo_closed h s a h1, h2⟩
theorem upTo_mono {R : Rel} {P : PS} {t s b : Nat} (h : t ≤ s) : upTo R P t b → upTo R P s b := fun ⟨k, hk, a, ha, hp⟩ => ⟨k, by omega, a, ha, hp⟩
theorem upTo_star {R : Rel} {P : PS} {t : Nat} (h : ∀ b, (∃ a, upTo R P t a ∧ R a b) → upTo R P t b) {b : Nat} : star R P b ↔ upTo R P t b := by
  constructor
  · rintro ⟨k, a, ha, hp⟩
    exact upTo_closed h k b (upTo_mono (by omega) (show upTo R P k b from ⟨k, Nat.le_refl _, a, ha, hp⟩))
  · rintro ⟨k, hk, a, ha, hp⟩
    exact ⟨k, a, ha, hp⟩

/-- A set that holds P, lies in what comes of P, and is closed, is all that comes of P. -/
theorem star_of {R : Rel} {P Q : PS} (h1 : ∀ b, P b → Q b) (h2 : ∀ b, Q b → star R P b) (h3 : ∀ a b, Q a → R a b → Q b) {b : Nat} : star R P b ↔ Q b := by
  refine ⟨?_, h2 b⟩
  rintro ⟨k, a, ha, hp⟩
  have : ∀ k b, pw R k a b → Q b := by
    intro k
    induction k with
    | zero => intro b h; cases h; exact h1 _ ha
    | succ k ih => rintro b ⟨m, h4, h5⟩; exact h3 m b (ih m h4) h5
  exact this k b hp

/-! ### How many places are not in a set -/
def outs (p : Nat → Bool) : Nat → Nat
  | 0 => 0
  | k + 1 => outs p k + if p k = true then 0 else 1
theorem outs_le (p : Nat → Bool) : ∀ k, outs p k ≤ k
  | 0 => Nat.le_refl _
  | k + 1 => by have := outs_le p k; simp only [outs]; split <;> omega
theorem outs_mono {p q : Nat → Bool} : ∀ {k : Nat}, (∀ b, b < k → p b = true → q b = true) → outs q k ≤ outs p k
  | 0, _ => Nat.le_refl _
  | k + 1, h => by
    have h1 := outs_mono (p := p) (q := q) (k := k) fun b hb => h b (by omega)
    have h2 := h k (by omega)
    simp only [outs]
    by_cases hp : p k = true
    · rw [if_pos hp, if_pos (h2 hp)]; omega
    · rw [if_neg hp]; split <;> omega
theorem outs_lt {p q : Nat → Bool} : ∀ {k : Nat}, (∀ b, b < k → p b = true → q b = true) → ∀ b, b < k → p b = false → q b = true → outs q k < outs p k
  | 0, _, b, hb, _, _ => by omega
  | k + 1, h, b, hb, h1, h2 => by
    simp only [outs]
    by_cases hbk : b = k
    · subst hbk
      have := outs_mono (p := p) (q := q) (k := b) fun c hc => h c (by omega)
      rw [if_pos h2, if_neg (by rw [h1]; simp)]; omega
    · have := outs_lt (p := p) (q := q) (k := k) (fun c hc => h c (by omega)) b (by omega) h1 h2
      have h3 := h k (by omega)
      by_cases hp : p k = true
      · rw [if_pos hp, if_pos (h3 hp)]; omega
      · rw [if_neg hp]; split <;> omega

/-! ### The list of ends -/
def endsL (p : Nat → Bool) : Nat → List Int
  | 0 => []
  | k + 1 => endsL p k ++ if p k = true then [(k : Int)] else []
theorem endsL_len (p : Nat → Bool) : ∀ k, (endsL p k).length ≤ k
  | 0 => Nat.le_refl _
  | k + 1 => by
    have := endsL_len p k
    simp only [endsL, List.length_append]
    split <;> simp <;> omega
theorem endsL_congr {p q : Nat → Bool} : ∀ {k : Nat}, (∀ b, b < k → p b = q b) → endsL p k = endsL q k
  | 0, _ => rfl
  | k + 1, h => by simp only [endsL, endsL_congr (k := k) fun b hb => h b (by omega), h k (by omega)]
theorem mem_endsL {p : Nat → Bool} {z : Int} : ∀ {k : Nat}, z ∈ endsL p k ↔ ∃ b, b < k ∧ p b = true ∧ z = (b : Int)
  | 0 => by simp [endsL]
  | k + 1 => by
    simp only [endsL, List.mem_append, mem_endsL (k := k)]
    constructor
    · rintro (⟨b, h1, h2, h3⟩ | h)
      · exact ⟨b, by omega, h2, h3⟩
      · split at h
        · rename_i hp; exact ⟨k, by omega, hp, by simpa using h⟩
        · simp at h
    · rintro ⟨b, h1, h2, h3⟩
      by_cases hb : b = k
      · subst hb; right; rw [if_pos h2]; simp [h3]
      · exact .inl ⟨b, by omega, h2, h3⟩
noncomputable def endsOf (x : List Nd) (t : List UInt8) (pl : Int) : List Int := by
  classical exact if RxOk x ∧ t.length ≤ 300 ∧ 0 ≤ pl ∧ pl ≤ t.length then endsL (dB (En x t (x.length - 1) pl.toNat)) (t.length + 1) else []
theorem endsOf_yes {x : List Nd} {t : List UInt8} {pl : Int} (h1 : RxOk x) (h2 : t.length ≤ 300) (h3 : 0 ≤ pl) (h4 : pl ≤ t.length) : endsOf x t pl = endsL (dB (En x t (x.length - 1) pl.toNat)) (t.length + 1) := by
  unfold endsOf; rw [if_pos ⟨h1, h2, h3, h4⟩]
theorem endsOf_no {x : List Nd} {t : List UInt8} {pl : Int} (h : ¬ (RxOk x ∧ t.length ≤ 300 ∧ 0 ≤ pl ∧ pl ≤ t.length)) : endsOf x t pl = [] := by
  unfold endsOf; rw [if_neg h]

end Go.Proofs.YtpjkammmoaeheaaDoor.Aw

/- Contracts: classes of bytes, small functions. -/
set_option linter.unusedSimpArgs false
set_option linter.unusedVariables false
namespace Go.Proofs.YtpjkammmoaeheaaDoor.Aw
open Go Go.RowKit

theorem dec_eq {p q : Prop} [Decidable p] [Decidable q] (h : p ↔ q) : V.bool (decide p) = V.bool (decide q) := by rw [decide_eq_decide.2 h]

theorem c_l1In (n lo hi : Int) (H : AH) : CallsA prog spec_l1In [.int .i64 n, .int .i64 lo, .int .i64 hi] H fun v H' => v = .bool (decide (lo ≤ n ∧ n ≤ hi)) ∧ H' = H := by
  refine spec_l1In_in fun D hD => ?_
  rw [spec_l1In_eq hD]
  refine splD (fun h => ?_) (fun h => ?_) <;> rw [J_spec_l1In_1_eq hD] <;> refine ⟨?_, rfl⟩
  · exact dec_eq (by omega)
  · rw [decide_eq_false (by omega : ¬ (lo ≤ n ∧ n ≤ hi))]

theorem c_within (n lo hi : Int) (H : AH) : CallsA prog impl_within [.int .i64 n, .int .i64 lo, .int .i64 hi] H fun v H' => v = .bool (decide (lo ≤ n ∧ n ≤ hi)) ∧ H' = H := by
  refine impl_within_in fun D hD => ?_
  rw [impl_within_eq hD]
  refine splD (fun h => ?_) (fun h => ?_) <;> rw [J_impl_within_1_eq hD] <;> refine ⟨?_, rfl⟩
  · exact dec_eq (by omega)
  · rw [decide_eq_false (by omega : ¬ (lo ≤ n ∧ n ≤ hi))]

theorem c_size (b i n : Nat) (c : Cap) (H : AH) : CallsA prog impl_size_impl_RNode [.sl b i n c] H fun v H' => v = .int .i64 n ∧ H' = H := by
  refine impl_size_impl_RNode_in fun D hD => ?_
  rw [impl_size_impl_RNode_eq hD]
  exact ⟨rfl, rfl⟩

theorem c_length (s : List UInt8) (H : AH) : CallsA prog impl_length [.str s] H fun v H' => v = .int .i64 s.length ∧ H' = H := by
  refine impl_length_in fun D hD => ?_
  rw [impl_length_eq hD]
  exact ⟨rfl, rfl⟩

theorem c_big (b i n : Nat) (c : Cap) (H : AH) : CallsA prog laws_big [.sl b i n c] H fun v H' => v = .bool (decide ((n : Int) > 1048576)) ∧ H' = H := by
  refine laws_big_in fun D hD => ?_
  rw [laws_big_eq hD]
  exact ⟨rfl, rfl⟩

theorem tn (i : Nat) : ((i : Int)).toNat = i := Int.toNat_natCast i

/-- Lists of numbers, one against the other. -/
theorem c_sameInts {F : Nat → Prop} {H : AH} {a b : V} {la lb : List Int} (ha : IsInts F H a la) (hb : IsInts F H b lb) : CallsA prog laws_sameInts [a, b] H fun v H' => v = .bool (decide (la = lb)) ∧ H' = H := by
  obtain ⟨ab, ai, ac, rfl, hla, -, ha⟩ := ha
  obtain ⟨bb, bi, bc, rfl, hlb, -, hb⟩ := hb
  refine laws_sameInts_in fun D hD => ?_
  rw [laws_sameInts_eq hD]
  refine splN (fun h => ⟨?_, rfl⟩) (fun h => ?_)
  · rw [decide_eq_false (fun e => h (by rw [e]))]
  rw [J_laws_sameInts_1_eq hD]
  have hl : la.length = lb.length := by omega
  refine loopUp (σ := Unit) la.length (fun k _ => [(0, V.sl ab ai la.length ac), (1, V.sl bb bi lb.length bc), (5, .int .i64 k)]) (fun k _ H' => H' = H ∧ ∀ j, j < k → la[j]? = lb[j]?) () rfl ⟨rfl, fun j hj => by omega⟩ ?_
  rintro k - _ hk ⟨rfl, hI⟩
  rw [L_laws_sameInts_3_eq hD]
  refine splD (fun h => ?_) (fun h => ?_)
  · rw [J_laws_sameInts_4_eq hD]
    have hka : k < la.length := by omega
    obtain ⟨x, hx⟩ : ∃ x, la[k]? = some x := ⟨_, List.getElem?_eq_getElem hka⟩
    obtain ⟨y, hy⟩ : ∃ y, lb[k]? = some y := ⟨_, List.getElem?_eq_getElem (by omega)⟩
    rw [tn]
    refine ⟨⟨by omega, by omega⟩, ldInt (ha k x hx) ⟨⟨by omega, by omega⟩, ldInt (hb k y hy) ?_⟩⟩
    refine splN (fun hne => ⟨?_, rfl⟩) (fun he => ?_)
    · rw [decide_eq_false (fun e => hne (by rw [e, hy] at hx; cases hx; rfl))]
    · rw [J_laws_sameInts_5_eq hD, inc (by omega)]
      refine nxt () hka rfl ⟨rfl, fun j hj => ?_⟩
      by_cases hjk : j = k
      · subst hjk; rw [hx, hy, he]
      · exact hI j (by omega)
  · rw [J_laws_sameInts_2_eq hD]
    refine ⟨?_, rfl⟩
    have : la = lb := List.ext_getElem? fun j => by
      by_cases hj : j < la.length
      · exact hI j (by omega)
      · rw [List.getElem?_eq_none (by omega), List.getElem?_eq_none (by omega)]
    rw [decide_eq_true this]

/-- A truth told by a bool. -/
def TellsB (v : V) (p : Prop) : Prop := ∃ b, v = .bool b ∧ (b = true ↔ p)

theorem COkTo.succ {c : Cls} {k : Nat} {s : Int × Int} (h : COkTo c k) (hs : c[k]? = some s) (h1 : 0 ≤ s.1) (h2 : s.1 ≤ s.2) (h3 : s.2 ≤ 255) (h4 : ∀ p, k ≠ 0 → c[k - 1]? = some p → p.2 + 2 ≤ s.1) : COkTo c (k + 1) := by
  intro i u hi hu
  by_cases hik : i = k
  · subst hik
    rw [hs] at hu; cases hu
    exact ⟨h1, h2, h3, h4⟩
  · exact h i u (by omega) hu

theorem c_specClassOk {F : Nat → Prop} {H : AH} {v : V} {c : Cls} (hc : IsSpans F H v c) : CallsA prog spec_ClassOk [v] H fun r H' => TellsB r (COk c) ∧ H' = H := by
  obtain ⟨b, i, cp, rfl, hl, -, hc⟩ := hc
  refine spec_ClassOk_in fun D hD => ?_
  rw [spec_ClassOk_eq hD]
  refine splD (fun h => ⟨⟨false, rfl, by simp; intro hk; have := hk.len; omega⟩, rfl⟩) (fun h => ?_)
  rw [J_spec_ClassOk_1_eq hD]
  refine loopUp (σ := Unit) c.length (fun k _ => [(0, V.sl b i c.length cp), (3, .int .i64 k)]) (fun k _ H' => H' = H ∧ COkTo c k) () rfl ⟨rfl, fun i s hi => by omega⟩ ?_
  rintro k - H hk ⟨rfl, hI⟩
  rw [L_spec_ClassOk_3_eq hD]
  refine splD (fun h => ?_) (fun h => ?_)
  · rw [J_spec_ClassOk_4_eq hD]
    have hkl : k < c.length := by omega
    obtain ⟨s, hs⟩ : ∃ s, c[k]? = some s := ⟨_, List.getElem?_eq_getElem hkl⟩
    obtain ⟨hs1, hs2⟩ := hc k s hs
    rw [tn]
    have bad : ¬ (0 ≤ s.1 ∧ s.1 ≤ s.2 ∧ s.2 ≤ 255 ∧ ∀ p, k ≠ 0 → c[k - 1]? = some p → p.2 + 2 ≤ s.1) → ¬ COk c := fun hn hk => hn (hk k s hs)
    have fin : ∀ (x : Bool), (x = true → ¬ COk c) → (x = false → COkTo c (k + 1)) → J_spec_ClassOk_6 D (fun r H' => TellsB r (COk c) ∧ H' = H) (Nxt c.length (fun k _ => [(0, V.sl b i c.length cp), (3, .int .i64 k)]) (fun k (_ : Unit) H' => H' = H ∧ COkTo c k) k) [(52, V.bool x), (0, V.sl b i c.length cp), (3, .int .i64 k)] H := by
      intro x h1 h2
      rw [J_spec_ClassOk_6_eq hD]
      refine spl (fun hx => ⟨⟨false, rfl, by simp; exact h1 hx⟩, rfl⟩) (fun hx => ?_)
      rw [J_spec_ClassOk_5_eq hD, inc (by omega)]
      exact nxt () hkl rfl ⟨rfl, h2 hx⟩
    refine ⟨⟨by omega, by omega⟩, ldInt hs1 ((c_l1In _ _ _ _).use ?_)⟩
    rintro _ _ ⟨rfl, rfl⟩
    refine splND (fun hx => fin true (fun _ => bad fun hh => by omega) (fun h => by cases h)) (fun hx => ?_)
    refine ⟨⟨by omega, by omega⟩, ldInt hs2 ⟨⟨by omega, by omega⟩, ldInt hs1 ((c_l1In _ _ _ _).use ?_)⟩⟩
    rintro _ _ ⟨rfl, rfl⟩
    refine splND (fun hx => fin true (fun _ => bad fun hh => by omega) (fun h => by cases h)) (fun hy => ?_)
    refine splD (fun hk0 => ?_) (fun hk0 => ?_)
    · obtain ⟨p, hp⟩ : ∃ p, c[k - 1]? = some p := ⟨_, List.getElem?_eq_getElem (by omega)⟩
      obtain ⟨hp1, hp2⟩ := hc (k - 1) p hp
      have hpo := hI (k - 1) p (by omega) hp
      have e : IntKind.i64.wrap ((k : Int) - 1) = ((k - 1 : Nat) : Int) := by rw [w64 (by omega) (by omega)]; omega
      rw [e, tn]
      refine ⟨⟨by omega, by omega⟩, ldInt hs1 ⟨⟨by omega, by omega⟩, ldInt hp2 ?_⟩⟩
      rw [w64 (by omega) (by omega)]
      refine fin _ (fun hx => bad fun hh => ?_) (fun hx => hI.succ hs (by omega) (by omega) (by omega) fun q _ hq => ?_)
      · have := of_decide_eq_true hx
        have := hh.2.2.2 p (by omega) hp
        omega
      · rw [hp] at hq; cases hq
        have := of_decide_eq_false hx
        omega
    · exact fin false (fun h => by cases h) (fun _ => hI.succ hs (by omega) (by omega) (by omega) fun q h0 _ => absurd h0 (by omega))
  · rw [J_spec_ClassOk_2_eq hD]
    exact ⟨⟨true, rfl, by simp; exact COkTo.all (by rwa [show k = c.length by omega] at hI)⟩, rfl⟩

theorem c_implClassOk {F : Nat → Prop} {H : AH} {v : V} {c : Cls} (hc : IsSpans F H v c) : CallsA prog impl_ClassOk [v] H fun r H' => TellsB r (COk c) ∧ Ext0 H H' := by
  obtain ⟨b, i, cp, rfl, hl, -, hc⟩ := hc
  refine impl_ClassOk_in fun D hD => ?_
  rw [impl_ClassOk_eq hD]
  refine loopUp (σ := Unit) c.length (fun k _ => [(6, .int .i64 c.length), (5, V.sl b i c.length cp), (0, V.sl b i c.length cp), (7, .int .i64 k)]) (fun k _ H' => Ext0 H H' ∧ COkTo c k) () rfl ⟨Ext.refl _ _, fun i s hi => by omega⟩ ?_
  rintro k - H1 hk ⟨hE, hI⟩
  rw [L_impl_ClassOk_2_eq hD]
  refine splD (fun h => ?_) (fun h => ?_)
  · rw [J_impl_ClassOk_3_eq hD]
    have hkl : k < c.length := by omega
    obtain ⟨s, hs⟩ : ∃ s, c[k]? = some s := ⟨_, List.getElem?_eq_getElem hkl⟩
    obtain ⟨hs1, hs2⟩ := hc k s hs
    rw [tn]
    have bad : ¬ (0 ≤ s.1 ∧ s.1 ≤ s.2 ∧ s.2 ≤ 255 ∧ ∀ p, k ≠ 0 → c[k - 1]? = some p → p.2 + 2 ≤ s.1) → ¬ COk c := fun hn hk => hn (hk k s hs)
    refine ⟨⟨by omega, by omega⟩, ldInt (hE.cell hs1 id) (ldInt (hE.cell hs2 id) ?_)⟩
    refine stI2 (get_new _ _) (by simp) ?_
    generalize hG : (H1 ++ [Blk.cells [V.int .i64 0, V.int .i64 0] false]).set H1.length (.cells [.int .i64 s.1, .int .i64 s.2] false) = G
    have hG0 : G[H1.length]? = some (.cells [.int .i64 s.1, .int .i64 s.2] false) := by rw [← hG]; exact get_set _ (by simp)
    have hEG : Ext0 H G := by
      rw [← hG]
      exact hE.new ((Ext.app _ _ _).trans (Ext.set _ _ _ (.inr (by have := hE.1; omega))))
    have fin : ∀ (x : Bool), (x = true → ¬ COk c) → (x = false → COkTo c (k + 1)) → J_impl_ClassOk_5 D (fun r H' => TellsB r (COk c) ∧ Ext0 H H') (Nxt c.length (fun k _ => [(6, .int .i64 c.length), (5, V.sl b i c.length cp), (0, V.sl b i c.length cp), (7, .int .i64 k)]) (fun k (_ : Unit) H' => Ext0 H H' ∧ COkTo c k) k) [(42, V.bool x), (0, V.sl b i c.length cp), (5, V.sl b i c.length cp), (6, .int .i64 c.length), (7, .int .i64 k)] G := by
      intro x h1 h2
      rw [J_impl_ClassOk_5_eq hD]
      refine spl (fun hx => ⟨⟨false, rfl, by simp; exact h1 hx⟩, hEG⟩) (fun hx => ?_)
      rw [J_impl_ClassOk_4_eq hD, inc (by omega)]
      exact nxt () hkl rfl ⟨hEG, h2 hx⟩
    have g0 := cell_of (i := 0) hG0 rfl
    have g1 := cell_of (i := 1) hG0 rfl
    refine ldInt g0 (splD (fun hx => fin true (fun _ => bad fun hh => by omega) (fun h => by cases h)) (fun hx => ldInt g0 (ldInt g1 (splD (fun hy => fin true (fun _ => bad fun hh => by omega) (fun h => by cases h)) (fun hy =>
      ldInt g1 (splD (fun hz => fin true (fun _ => bad fun hh => by omega) (fun h => by cases h)) (fun hz => splD (fun hk0 => ldInt g0 ?_) (fun hk0 => ?_))))))))
    · obtain ⟨p, hp⟩ : ∃ p, c[k - 1]? = some p := ⟨_, List.getElem?_eq_getElem (by omega)⟩
      obtain ⟨hp1, hp2⟩ := hc (k - 1) p hp
      have hpo := hI (k - 1) p (by omega) hp
      have e : IntKind.i64.wrap ((k : Int) - 1) = ((k - 1 : Nat) : Int) := by rw [w64 (by omega) (by omega)]; omega
      rw [e, tn]
      refine ⟨⟨by omega, by omega⟩, ldInt (hEG.cell hp2 id) ?_⟩
      rw [w64 (by omega) (by omega)]
      refine fin _ (fun hx => bad fun hh => ?_) (fun hx => hI.succ hs (by omega) (by omega) (by omega) fun q _ hq => ?_)
      · have := of_decide_eq_true hx
        have := hh.2.2.2 p (by omega) hp
        omega
      · rw [hp] at hq; cases hq
        have := of_decide_eq_false hx
        omega
    · exact fin false (fun h => by cases h) (fun _ => hI.succ hs (by omega) (by omega) (by omega) fun q h0 _ => absurd h0 (by omega))
  · rw [J_impl_ClassOk_1_eq hD]
    exact ⟨⟨true, rfl, by simp; exact COkTo.all (by rwa [show k = c.length by omega] at hI)⟩, hE⟩

end Go.Proofs.YtpjkammmoaeheaaDoor.Aw

/- Contracts: the flags of a class, the class of flags. -/
set_option linter.unusedSimpArgs false
set_option linter.unusedVariables false
set_option maxRecDepth 10000
namespace Go.Proofs.YtpjkammmoaeheaaDoor.Aw
open Go Go.RowKit

/-! ### Flags in a block -/
abbrev bV (n : Nat) (p : Nat → Bool) : List V := (bl n p).map V.bool
theorem bV_len (n : Nat) (p : Nat → Bool) : (bV n p).length = n := by simp [bl_len]
theorem bV_get {n : Nat} {p : Nat → Bool} {k : Nat} (h : k < n) : (bV n p)[k]? = some (.bool (p k)) := by simp [bl_get h]
theorem bV_one (n : Nat) (p : Nat → Bool) : (bV n p).all V.one = true := by simp [V.one]
theorem bV_ok (n : Nat) (p : Nat → Bool) : (decide ((bV n p).length = n) && (bV n p).all V.one) = true := by rw [bV_one, Bool.and_true]; exact decide_eq_true (bV_len _ _)
theorem bV_rep (n : Nat) : List.replicate n (V.bool false) = bV n fun _ => false := by rw [bV, ← bl_rep]; simp
theorem bV_congr {n : Nat} {p q : Nat → Bool} (h : ∀ k, k < n → p k = q k) : bV n p = bV n q := by rw [bV, bl_congr h]
theorem bV_set {n j : Nat} {p q : Nat → Bool} {b : Bool} (hq : ∀ k, k < n → q k = if k = j then b else p k) : (bV n p).set j (V.bool b) = bV n q := by
  rw [bV, map_set, bl_set]; exact (bV_congr fun k hk => (hq k hk).symm)
theorem bcell {H : AH} {B n : Nat} {p : Nat → Bool} {ro : Bool} (h : H[B]? = some (.cells (bV n p) ro)) {j : Nat} (hj : j < n) : H.cell B j = some (.bool (p j)) := cell_of h (bV_get hj)
theorem bst {H : AH} {B n j : Nat} {p : Nat → Bool} (q : Nat → Bool) {b : Bool} {K : AH → Prop} (h : H[B]? = some (.cells (bV n p) false)) (hj : j < n) (hq : ∀ k, k < n → q k = if k = j then b else p k) (hk : K (H.set B (.cells (bV n q) false))) : stK H B j [V.bool b] K :=
  stI h (by rw [bV_len]; exact hj) (by rw [bV_set hq]; exact hk)
theorem bRow {F : Nat → Prop} {H : AH} {B n : Nat} {p : Nat → Bool} {ro : Bool} {c : Cap} (h : H[B]? = some (.cells (bV n p) ro)) (hf : F B) (hn : n ≤ 140737488355328) : IsBools F H (.sl B 0 n c) (bl n p) := by
  have := IsRow.of_block1 (c := c) (enc := V.bool) (l := bl n p) h hf (by rw [bl_len]; exact hn)
  rwa [bl_len] at this
theorem bRow_cell {F : Nat → Prop} {H : AH} {v : V} {n : Nat} {p : Nat → Bool} (h : IsBools F H v (bl n p)) : ∃ b i c, v = .sl b i n c ∧ n ≤ 140737488355328 ∧ (n ≠ 0 → F b) ∧ ∀ j, j < n → H.cell b (i + j * 1) = some (.bool (p j)) := by
  obtain ⟨b, i, c, rfl, h1, h2, h3⟩ := h
  rw [bl_len] at *
  exact ⟨b, i, c, rfl, h1, fun hn => h2 (by intro he; have := congrArg List.length he; rw [bl_len] at this; exact hn this), fun j hj => h3 j _ (bl_get hj)⟩

theorem putL_from {α : Type} : ∀ (cs vs pre : List α), cs.length = vs.length → putL (pre ++ vs) pre.length cs = pre ++ cs
  | [], vs, pre, h => by
    have : vs = [] := by simpa using h.symm
    subst this; rfl
  | c :: cs, [], pre, h => by simp at h
  | c :: cs, v :: vs, pre, h => by
    have := putL_from cs vs (pre ++ [c]) (by simpa using h)
    simp only [putL]
    rw [show (pre ++ v :: vs).set pre.length c = (pre ++ [c]) ++ vs by simp]
    simpa using this
theorem putL_all {α : Type} {cs vs : List α} (h : cs.length = vs.length) : putL vs 0 cs = cs := putL_from cs vs [] h

/-- A block is laid anew. -/
theorem stAll {H : AH} {b : Nat} {vs cs : List V} {K : AH → Prop} (h : H[b]? = some (.cells vs false)) (hl : cs.length = vs.length) (hk : K (H.set b (.cells cs false))) : stK H b 0 cs K :=
  stN h (by rw [hl]; omega) (by rw [putL_all hl]; exact hk)

theorem c_l1Marks {F : Nat → Prop} {H : AH} {v : V} {c : Cls} (hc : IsSpans F H v c) (ok : COk c) : CallsA prog spec_l1Marks [v] H fun r H' => r = .sl H.length 0 256 (.ex 256) ∧ H'[H.length]? = some (.cells (bV 256 (mk c)) false) ∧ Ext0 H H' := by
  obtain ⟨b, i, cp, rfl, hl, -, hc⟩ := hc
  refine spec_l1Marks_in fun D hD => ?_
  rw [spec_l1Marks_eq hD, bV_rep]
  refine ⟨⟨by omega, by omega, by omega, by omega⟩, ?_⟩
  refine loopUp (σ := Unit) c.length (fun k _ => [(0, V.sl b i c.length cp), (4, .int .i64 k), (3, .sl H.length 0 256 (.ex 256))]) (fun k _ H' => Ext0 H H' ∧ H'[H.length]? = some (.cells (bV 256 (mk (c.take k))) false)) () rfl ⟨Ext.app _ _ _, get_new _ _⟩ ?_
  rintro k - H1 hk ⟨hE, hB⟩
  rw [L_spec_l1Marks_2_eq hD]
  refine splD (fun h => ?_) (fun h => ?_)
  · have hkl : k < c.length := by omega
    obtain ⟨s, hs⟩ : ∃ s, c[k]? = some s := ⟨_, List.getElem?_eq_getElem hkl⟩
    obtain ⟨hs1, hs2⟩ := hc k s hs
    obtain ⟨o1, o2, o3, -⟩ := ok k s hs
    rw [J_spec_l1Marks_3_eq hD, tn]
    refine ⟨⟨by omega, by omega⟩, ldInt (hE.cell hs1 id) ?_⟩
    refine loopUp (σ := Unit) (s.2 + 1 - s.1).toNat (fun t _ => [(5, .int .i64 (s.1 + (t : Int))), (0, V.sl b i c.length cp), (4, .int .i64 k), (3, .sl H.length 0 256 (.ex 256))])
      (fun t _ H' => Ext0 H H' ∧ H'[H.length]? = some (.cells (bV 256 fun x => mk (c.take k) x || decide (s.1 ≤ (x : Int) ∧ (x : Int) < s.1 + t)) false)) () (by simp) ⟨hE, by
        rw [hB, bV_congr]; intro x hx; have : decide (s.1 ≤ (x : Int) ∧ (x : Int) < s.1 + (0 : Nat)) = false := decide_eq_false (by omega)
        simp only [this, Bool.or_false]⟩ ?_
    rintro t - H2 ht ⟨hE2, hB2⟩
    rw [L_spec_l1Marks_5_eq hD, tn]
    refine ⟨⟨by omega, by omega⟩, ldInt (hE2.cell hs2 id) (splD (fun h5 => ?_) (fun h5 => ?_))⟩
    · rw [J_spec_l1Marks_6_eq hD]
      refine ⟨⟨by omega, by omega⟩, ?_⟩
      refine bst (fun x => mk (c.take k) x || decide (s.1 ≤ (x : Int) ∧ (x : Int) < s.1 + (t + 1 : Nat))) hB2 (by omega) (fun x hx => ?_) ?_
      · by_cases he : x = 0 + (s.1 + (t : Int)).toNat * 1
        · rw [if_pos he, decide_eq_true (by omega), Bool.or_true]
        · rw [if_neg he]; congr 1; exact decide_eq_decide.2 (by omega)
      · rw [J_spec_l1Marks_7_eq hD, w64 (by omega) (by omega)]
        exact nxt () (by omega) (by rw [show s.1 + (t : Int) + 1 = s.1 + ((t + 1 : Nat) : Int) by omega]) ⟨hE2.new (Ext.set _ _ _ (.inr (Nat.le_refl _))), get_set _ (get_lt hB2)⟩
    · rw [J_spec_l1Marks_4_eq hD, inc (by omega)]
      refine nxt () hkl rfl ⟨hE2, ?_⟩
      rw [hB2, bV_congr]
      intro x hx
      rw [mk_take hs]; congr 1; exact decide_eq_decide.2 (by omega)
  · rw [J_spec_l1Marks_1_eq hD]
    refine ⟨rfl, ?_, hE⟩
    rw [hB, show k = c.length by omega, List.take_length]

theorem c_bytesOf {F : Nat → Prop} {H : AH} {v : V} {c : Cls} (hc : IsSpans F H v c) (ok : COk c) : CallsA prog impl_bytesOf [v] H fun r H' => r = .agg (bV 256 (mk c)) ∧ Ext0 H H' := by
  obtain ⟨b, i, cp, rfl, hl, -, hc⟩ := hc
  refine impl_bytesOf_in fun D hD => ?_
  rw [impl_bytesOf_eq hD, bV_rep]
  have hlen : (H ++ [Blk.cells (bV 256 fun _ => false) false]).length = H.length + 1 := by simp
  rw [hlen]
  refine stN (by rw [← hlen]; exact get_new _ _) (by simp) ?_
  generalize hG : (H ++ [Blk.cells (bV 256 fun _ => false) false] ++ [Blk.cells (bV 256 fun _ => false) false]).set (H.length + 1) (.cells (putL (bV 256 fun _ => false) 0 (bV 256 fun _ => false)) false) = G
  have hG1 : G[H.length]? = some (.cells (bV 256 fun _ => false) false) := by
    rw [← hG, List.getElem?_set_ne (by omega), List.getElem?_append_left (by simp)]; exact get_new _ _
  have hG2 : G[H.length + 1]? = some (.cells (bV 256 fun _ => false) false) := by
    rw [← hG, get_set _ (by simp), putL_all rfl]
  have hEG : Ext0 H G := by
    rw [← hG]; exact ((Ext.app _ _ _).trans (Ext.app _ _ _)).new (Ext.set _ _ _ (.inr (by omega)))
  refine loopUp (σ := Unit) c.length (fun k _ => [(9, .int .i64 c.length), (2, .ptr H.length 0), (8, V.sl b i c.length cp), (10, .int .i64 k), (3, .ptr (H.length + 1) 0)])
    (fun k _ H' => Ext0 H H' ∧ H'[H.length]? = some (.cells (bV 256 fun _ => false) false) ∧ H'[H.length + 1]? = some (.cells (bV 256 (mk (c.take k))) false)) () rfl ⟨hEG, hG1, hG2⟩ ?_
  rintro k - H1 hk ⟨hE, hA, hB⟩
  rw [L_impl_bytesOf_2_eq hD]
  refine splD (fun h => ?_) (fun h => ?_)
  · have hkl : k < c.length := by omega
    obtain ⟨s, hs⟩ : ∃ s, c[k]? = some s := ⟨_, List.getElem?_eq_getElem hkl⟩
    obtain ⟨hs1, hs2⟩ := hc k s hs
    obtain ⟨o1, o2, o3, -⟩ := ok k s hs
    rw [J_impl_bytesOf_3_eq hD, tn]
    refine ⟨⟨by omega, by omega⟩, ldInt (hE.cell hs1 id) (ldInt (hE.cell hs2 id) ?_)⟩
    refine stI2 (get_new _ _) trivial ?_
    have hl1 : H.length + 1 < H1.length := get_lt hB
    generalize hG : (H1 ++ [Blk.cells [V.int .i64 0, V.int .i64 0] false]).set H1.length (.cells [.int .i64 s.1, .int .i64 s.2] false) = G
    have hS : G[H1.length]? = some (.cells [.int .i64 s.1, .int .i64 s.2] false) := by rw [← hG]; exact get_set _ (by simp)
    have hEG : Ext (fun x => x = H1.length) H1 G := by
      rw [← hG]; exact (Ext.app _ _ _).trans (Ext.set _ _ _ rfl)
    refine ldInt (cell_of (i := 0) hS rfl) ?_
    refine loopUp (σ := Unit) (s.2 + 1 - s.1).toNat (fun t _ => [(6, .int .i64 (s.1 + (t : Int))), (5, .ptr H1.length 0), (8, V.sl b i c.length cp), (2, .ptr H.length 0), (9, .int .i64 c.length), (10, .int .i64 k), (3, .ptr (H.length + 1) 0)])
      (fun t _ H' => Ext0 H H' ∧ H'[H1.length]? = some (.cells [.int .i64 s.1, .int .i64 s.2] false) ∧ H'[H.length]? = some (.cells (bV 256 fun _ => false) false) ∧ H'[H.length + 1]? = some (.cells (bV 256 fun x => mk (c.take k) x || decide (s.1 ≤ (x : Int) ∧ (x : Int) < s.1 + t)) false)) () (by simp)
      ⟨hE.new (hEG.mono fun x _ hx => .inr (by omega)), hS, hEG.get hA (by omega), by
        rw [hEG.get hB (by omega), bV_congr]; intro x hx; have : decide (s.1 ≤ (x : Int) ∧ (x : Int) < s.1 + (0 : Nat)) = false := decide_eq_false (by omega)
        simp only [this, Bool.or_false]⟩ ?_
    rintro t - H2 ht ⟨hE2, hS2, hA2, hB2⟩
    rw [L_impl_bytesOf_5_eq hD]
    refine ldInt (cell_of (i := 1) hS2 rfl) (splD (fun h5 => ?_) (fun h5 => ?_))
    · rw [J_impl_bytesOf_6_eq hD]
      refine ⟨⟨by omega, by omega⟩, ?_⟩
      refine bst (fun x => mk (c.take k) x || decide (s.1 ≤ (x : Int) ∧ (x : Int) < s.1 + (t + 1 : Nat))) hB2 (by omega) (fun x hx => ?_) ?_
      · by_cases he : x = 0 + (s.1 + (t : Int)).toNat * 1
        · rw [if_pos he, decide_eq_true (by omega), Bool.or_true]
        · rw [if_neg he]; congr 1; exact decide_eq_decide.2 (by omega)
      · rw [J_impl_bytesOf_7_eq hD, w64 (by omega) (by omega)]
        have hES : Ext (fun x => x = H.length + 1) H2 (H2.set (H.length + 1) (.cells (bV 256 fun x => mk (c.take k) x || decide (s.1 ≤ (x : Int) ∧ (x : Int) < s.1 + (t + 1 : Nat))) false)) := Ext.set _ _ _ rfl
        exact nxt () (by omega) (by rw [show s.1 + (t : Int) + 1 = s.1 + ((t + 1 : Nat) : Int) by omega]) ⟨hE2.new (hES.mono fun x _ hx => .inr (by omega)), hES.get hS2 (by omega), hES.get hA2 (by omega), get_set _ (get_lt hB2)⟩
    · rw [J_impl_bytesOf_4_eq hD, inc (by omega)]
      refine nxt () hkl rfl ⟨hE2, hA2, ?_⟩
      rw [hB2, bV_congr]
      intro x hx
      rw [mk_take hs]; congr 1; exact decide_eq_decide.2 (by omega)
  · rw [J_impl_bytesOf_1_eq hD]
    rw [show k = c.length by omega, List.take_length] at hB
    have hcn := (Cells.of_block hB).cellsN
    rw [bV_len] at hcn
    refine cellsI hcn (obI (bV_ok _ _) (stN hA (by rw [bV_len, bV_len]; omega) ?_))
    rw [putL_all (by rw [bV_len, bV_len])]
    have := (Cells.of_block (get_set (.cells (bV 256 (mk c)) false) (get_lt hA))).cellsN
    rw [bV_len] at this
    exact cellsI this ⟨rfl, hE.new (Ext.set _ _ _ (.inr (by omega)))⟩

end Go.Proofs.YtpjkammmoaeheaaDoor.Aw

/- Contracts: the class of flags; joined classes. -/
set_option linter.unusedSimpArgs false
set_option linter.unusedVariables false
set_option maxRecDepth 10000
namespace Go.Proofs.YtpjkammmoaeheaaDoor.Aw
open Go Go.RowKit

theorem flat_set {d : Cls} {lo hi x : Int} {j : Nat} (hj : j = d.length * 2 + 1) : ((d ++ [(lo, hi)]).flatMap spanV).set j (V.int .i64 x) = (d ++ [(lo, x)]).flatMap spanV := by
  subst hj
  rw [List.flatMap_append, List.flatMap_append, List.set_append_right _ _ (by rw [flat_len (n := 2) (fun _ => rfl)]; omega), flat_len (n := 2) (fun _ => rfl)]
  rw [show d.length * 2 + 1 - d.length * 2 = 1 by omega]
  rfl
theorem flat_last {d : Cls} {lo hi : Int} : ((d ++ [(lo, hi)]).flatMap spanV)[d.length * 2 + 1]? = some (V.int .i64 hi) := by
  rw [List.flatMap_append, List.getElem?_append_right (by rw [flat_len (n := 2) (fun _ => rfl)]; omega), flat_len (n := 2) (fun _ => rfl)]
  rw [show d.length * 2 + 1 - d.length * 2 = 1 by omega]
  rfl

/-- What a call hands back that has made a class. -/
def NewCls (H : AH) (c : Cls) (r : V) (H' : AH) : Prop := ∃ b n cp, r = .sl b 0 n cp ∧ Own H.length 2 H' b n cp (c.flatMap spanV) ∧ Ext0 H H'
theorem NewCls.spans {H H' : AH} {c : Cls} {r : V} (h : NewCls H c r H') : IsSpans (fun x => H.length ≤ x) H' r c := by
  obtain ⟨b, n, cp, rfl, ho, _⟩ := h
  exact ho.row2
theorem NewCls.ext {H H' : AH} {c : Cls} {r : V} (h : NewCls H c r H') : Ext0 H H' := by
  obtain ⟨b, n, cp, rfl, ho, he⟩ := h
  exact he

/-- A store into a slice that the call owns. -/
theorem Own.store {n0 sz b n j : Nat} {H : AH} {c : Cap} {vs : List V} {v : V} {K : AH → Prop} (h : Own n0 sz H b n c vs) (hj : j < vs.length) (hK : Own n0 sz (H.set b (.cells (vs.set j v) false)) b n c (vs.set j v) → n0 ≤ b → Ext (fun x => x = b) H (H.set b (.cells (vs.set j v) false)) → K (H.set b (.cells (vs.set j v) false))) : stK H b j [v] K := by
  obtain ⟨h1, h2⟩ := h
  rcases h2 with ⟨rfl, rfl, rfl⟩ | ⟨hb, hH, hc⟩
  · rw [h1.1] at hj; omega
  · exact stI hH hj (hK ⟨⟨by rw [List.length_set]; exact h1.1, h1.2⟩, .inr ⟨hb, get_set _ (get_lt hH), hc⟩⟩ hb (Ext.set _ _ _ rfl))
theorem Own.get {n0 sz b n j : Nat} {H : AH} {c : Cap} {vs : List V} {v : V} (h : Own n0 sz H b n c vs) (hv : vs[j]? = some v) : H.cell b j = some v := by
  obtain ⟨h1, h2⟩ := h
  rcases h2 with ⟨rfl, rfl, rfl⟩ | ⟨hb, hH, hc⟩
  · have : vs = [] := by simpa using h1.1
    subst this; simp at hv
  · exact cell_of hH hv
theorem Own.len {n0 sz b n : Nat} {H : AH} {c : Cap} {vs : List V} (h : Own n0 sz H b n c vs) : vs.length = n * sz := h.1.1
theorem Own.ge {n0 sz b n : Nat} {H : AH} {c : Cap} {vs : List V} (h : Own n0 sz H b n c vs) (hn : n ≠ 0) : n0 ≤ b := by
  rcases h.2 with ⟨_, h, _⟩ | ⟨h, _⟩
  · exact absurd h hn
  · exact h

theorem c_l1Class {F : Nat → Prop} {H : AH} {v : V} {p : Nat → Bool} (hm : IsBools F H v (bl 256 p)) : CallsA prog spec_l1Class [v] H fun r H' => NewCls H (cls p) r H' := by
  obtain ⟨mb, mi, mc, rfl, -, -, hm⟩ := bRow_cell hm
  refine spec_l1Class_in fun D hD => ?_
  rw [spec_l1Class_eq hD]
  refine loopUp (σ := Nat × Nat × Cap) 256 (fun k s => [(4, .int .i64 k), (0, .sl mb mi 256 mc), (3, .sl s.1 0 s.2.1 s.2.2)]) (fun k s H' => Ext0 H H' ∧ Own H.length 2 H' s.1 s.2.1 s.2.2 ((clTo p k).flatMap spanV)) (H.length, 0, .ex 0) rfl
    ⟨Ext.app _ _ _, Own.lit (by rfl) (Nat.le_refl _) (Nat.zero_le _)⟩ ?_
  rintro k ⟨ob, on, oc⟩ H1 hk ⟨hE, hO⟩
  simp only at hO ⊢
  have hlen : on = (clTo p k).length := by have := hO.len; rw [flat_len (n := 2) (fun _ => rfl)] at this; omega
  rw [L_spec_l1Class_2_eq hD]
  refine splD (fun h => ?_) (fun h => ?_)
  · have hk2 : k < 256 := by omega
    have hc128 := cls_len p k hk
    have nx : ∀ (b' n' : Nat) (c' : Cap) H', Ext0 H H' → Own H.length 2 H' b' n' c' ((clStep p (clTo p k) k).flatMap spanV) → J_spec_l1Class_4 D (fun r H' => NewCls H (cls p) r H') (Nxt 256 (fun k (s : Nat × Nat × Cap) => [(4, .int .i64 k), (0, .sl mb mi 256 mc), (3, .sl s.1 0 s.2.1 s.2.2)]) (fun k s H' => Ext0 H H' ∧ Own H.length 2 H' s.1 s.2.1 s.2.2 ((clTo p k).flatMap spanV)) k) [(4, .int .i64 k), (0, .sl mb mi 256 mc), (3, .sl b' 0 n' c')] H' := by
      intro b' n' c' H' hE' hO'
      rw [J_spec_l1Class_4_eq hD, inc (by omega)]
      exact nxt (b', n', c') hk2 rfl ⟨hE', hO'⟩
    rw [J_spec_l1Class_3_eq hD, tn]
    refine ⟨⟨by omega, by omega⟩, ldBool (hE.cell (hm k hk2) id) (splNot (fun hp => nx _ _ _ _ hE (by rw [clStep_no hp]; exact hO)) (fun hp => ?_))⟩
    rw [J_spec_l1Class_5_eq hD]
    have fin : ∀ x : Bool, (x = true → ∃ d lo, clTo p k = d ++ [(lo, (k : Int) - 1)]) → (x = false → ∀ s, (clTo p k).getLast? = some s → s.2 ≠ (k : Int) - 1) →
        J_spec_l1Class_6 D (fun r H' => NewCls H (cls p) r H') (Nxt 256 (fun k (s : Nat × Nat × Cap) => [(4, .int .i64 k), (0, .sl mb mi 256 mc), (3, .sl s.1 0 s.2.1 s.2.2)]) (fun k s H' => Ext0 H H' ∧ Own H.length 2 H' s.1 s.2.1 s.2.2 ((clTo p k).flatMap spanV)) k) [(29, .bool x), (4, .int .i64 k), (0, .sl mb mi 256 mc), (3, .sl ob 0 on oc)] H1 := by
      intro x h1 h2
      rw [J_spec_l1Class_6_eq hD]
      refine spl (fun hx => ?_) (fun hx => ?_)
      · obtain ⟨d, lo, hd⟩ := h1 hx
        have hdl : on = d.length + 1 := by rw [hlen, hd]; simp
        have e : IntKind.i64.wrap ((on : Int) - 1) = ((d.length : Nat) : Int) := by rw [w64 (by omega) (by omega)]; omega
        rw [e, tn]
        refine ⟨⟨by omega, by omega⟩, hO.store (by rw [hO.len]; omega) fun hO' hb he => nx _ _ _ _ (hE.new (he.mono fun x _ hx => .inr (by omega))) ?_⟩
        rw [hd] at hO' ⊢
        rw [flat_set (by omega)] at hO'
        rw [clStep_set hp rfl]
        rwa [flat_set (by omega)]
      · refine cellsNew rfl ?_
        have hO2 : Own H.length 2 (H1 ++ [Blk.cells [V.int .i64 k, V.int .i64 k] false]) ob on oc ((clTo p k).flatMap spanV) := hO.keep (Ext.app (fun _ => False) _ _) (fun _ => id)
        refine hO2.push (m := 1) rfl (by omega) (by omega) (by omega) (by omega) (by simp; have := hE.1; omega) fun H' hO' hl he => nx _ _ _ _ ?_ ?_
        · exact (hE.trans (Ext.app _ _ _)).new (he.mono fun x _ hx => .inr hx.1)
        · rw [clStep_new hp (h2 hx), List.flatMap_append]
          exact hO'
    refine splD (fun hn => ?_) (fun hn => ?_)
    · obtain ⟨d, ⟨lo, hi⟩, hd⟩ := last_split (l := clTo p k) (by rintro he; rw [he] at hlen; simp at hlen; omega)
      have hdl : on = d.length + 1 := by rw [hlen, hd]; simp
      have e : IntKind.i64.wrap ((on : Int) - 1) = ((d.length : Nat) : Int) := by rw [w64 (by omega) (by omega)]; omega
      rw [e, tn]
      refine ⟨⟨by omega, by omega⟩, ldInt (hO.get (by rw [hd, Nat.zero_add]; exact flat_last)) ?_⟩
      rw [w64 (by omega) (by omega)]
      refine fin _ (fun hx => ⟨d, lo, by rw [hd]; simp at hx; rw [hx]⟩) (fun hx s hs => ?_)
      rw [hd] at hs
      simp at hs hx
      rw [← hs]; exact hx
    · exact fin false (fun h => by cases h) (fun _ s hs => by have : clTo p k = [] := List.length_eq_zero_iff.1 (by omega)
                                                              rw [this] at hs; simp at hs)
  · rw [J_spec_l1Class_1_eq hD]
    refine ⟨ob, on, oc, rfl, ?_, hE⟩
    rw [show k = 256 by omega] at hO
    exact hO

theorem c_implclass {H : AH} {p : Nat → Bool} : CallsA prog impl_bytes256_class [.agg (bV 256 p)] H fun r H' => NewCls H (cls p) r H' := by
  refine impl_bytes256_class_in fun D hD => ?_
  rw [impl_bytes256_class_eq hD]
  refine obI (bV_one _ _) ?_
  simp only [V.cells]
  have hl1 : (H ++ [Blk.cells (bV 256 p) false]).length = H.length + 1 := by simp
  rw [hl1]
  have hA0 : (H ++ [Blk.cells (bV 256 p) false] ++ [Blk.cells [] false])[H.length]? = some (.cells (bV 256 p) false) := by
    rw [List.getElem?_append_left (by simp)]; exact get_new _ _
  have hO0 : Own (H.length + 1) 2 (H ++ [Blk.cells (bV 256 p) false] ++ [Blk.cells [] false]) (H.length + 1) 0 (.ex 0) ([] : List V) := by
    rw [← hl1]; exact Own.lit (by rfl) (Nat.le_refl _) (by omega)
  refine loopUp (σ := Nat × Nat × Cap) 256 (fun k s => [(7, .int .i64 k), (1, .ptr H.length 0), (3, .sl s.1 0 s.2.1 s.2.2)]) (fun k s H' => Ext0 H H' ∧ H'[H.length]? = some (.cells (bV 256 p) false) ∧ Own (H.length + 1) 2 H' s.1 s.2.1 s.2.2 ((clTo p k).flatMap spanV)) (H.length + 1, 0, .ex 0) rfl
    ⟨(Ext.app _ _ _).trans (Ext.app _ _ _), hA0, hO0⟩ ?_
  rintro k ⟨ob, on, oc⟩ H1 hk ⟨hE, hA, hO⟩
  simp only at hO ⊢
  have hlen : on = (clTo p k).length := by have := hO.len; rw [flat_len (n := 2) (fun _ => rfl)] at this; omega
  have hH1 : H.length < H1.length := get_lt hA
  rw [L_impl_bytes256_class_2_eq hD]
  refine splD (fun h => ?_) (fun h => ?_)
  · have hk2 : k < 256 := by omega
    have hc128 := cls_len p k hk
    have nx : ∀ (b' n' : Nat) (c' : Cap) H', Ext0 H H' → H'[H.length]? = some (.cells (bV 256 p) false) → Own (H.length + 1) 2 H' b' n' c' ((clStep p (clTo p k) k).flatMap spanV) → J_impl_bytes256_class_4 D (fun r H' => NewCls H (cls p) r H') (Nxt 256 (fun k (s : Nat × Nat × Cap) => [(7, .int .i64 k), (1, .ptr H.length 0), (3, .sl s.1 0 s.2.1 s.2.2)]) (fun k s H' => Ext0 H H' ∧ H'[H.length]? = some (.cells (bV 256 p) false) ∧ Own (H.length + 1) 2 H' s.1 s.2.1 s.2.2 ((clTo p k).flatMap spanV)) k) [(7, .int .i64 k), (1, .ptr H.length 0), (3, .sl b' 0 n' c')] H' := by
      intro b' n' c' H' hE' hA' hO'
      rw [J_impl_bytes256_class_4_eq hD, inc (by omega)]
      exact nxt (b', n', c') hk2 rfl ⟨hE', hA', hO'⟩
    have fin : ∀ (x : Bool), (x = true → ∃ d lo, clTo p k = d ++ [(lo, (k : Int) - 1)]) → (x = false → ∀ s, (clTo p k).getLast? = some s → s.2 ≠ (k : Int) - 1) → p k = true →
        J_impl_bytes256_class_5 D (fun r H' => NewCls H (cls p) r H') (Nxt 256 (fun k (s : Nat × Nat × Cap) => [(7, .int .i64 k), (1, .ptr H.length 0), (3, .sl s.1 0 s.2.1 s.2.2)]) (fun k s H' => Ext0 H H' ∧ H'[H.length]? = some (.cells (bV 256 p) false) ∧ Own (H.length + 1) 2 H' s.1 s.2.1 s.2.2 ((clTo p k).flatMap spanV)) k)
          [(24, .bool x), (5, .int .i64 (IntKind.i64.wrap ((on : Int) - 1))), (4, .int .i64 k), (7, .int .i64 k), (1, .ptr H.length 0), (3, .sl ob 0 on oc)] H1 := by
      intro x h1 h2 hp
      rw [J_impl_bytes256_class_5_eq hD]
      refine spl (fun hx => ?_) (fun hx => ?_)
      · obtain ⟨d, lo, hd⟩ := h1 hx
        have hdl : on = d.length + 1 := by rw [hlen, hd]; simp
        have e : IntKind.i64.wrap ((on : Int) - 1) = ((d.length : Nat) : Int) := by rw [w64 (by omega) (by omega)]; omega
        rw [e, tn]
        refine ⟨⟨by omega, by omega⟩, hO.store (by rw [hO.len]; omega) fun hO' hb he => nx _ _ _ _ (hE.new (he.mono fun x _ hx => .inr (by omega))) (he.get hA (by omega)) ?_⟩
        rw [hd] at hO' ⊢
        rw [flat_set (by omega)] at hO'
        rw [clStep_set hp rfl]
        rwa [flat_set (by omega)]
      · refine cellsNew rfl ?_
        have hO2 : Own (H.length + 1) 2 (H1 ++ [Blk.cells [V.int .i64 k, V.int .i64 k] false]) ob on oc ((clTo p k).flatMap spanV) := hO.keep (Ext.app (fun _ => False) _ _) (fun _ => id)
        refine hO2.push (m := 1) rfl (by omega) (by omega) (by omega) (by omega) (by simp; omega) fun H' hO' hl he => nx _ _ _ _ ?_ ?_ ?_
        · exact (hE.trans (Ext.app _ _ _)).new (he.mono fun x _ hx => .inr (by omega))
        · exact he.get ((Ext.app (fun _ => False) _ _).get hA id) (by omega)
        · rw [clStep_new hp (h2 hx), List.flatMap_append]
          exact hO'
    rw [J_impl_bytes256_class_3_eq hD, tn]
    refine ⟨⟨by omega, by omega⟩, ldBool (bcell hA (by omega)) (splNot (fun hp => nx _ _ _ _ hE hA (by rw [clStep_no (by simpa using hp)]; exact hO)) (fun hp => ?_))⟩
    have hp : p k = true := by simpa using hp
    refine splD (fun hn => ?_) (fun hn => ?_)
    · rw [w64 (by omega) (by omega)] at hn
      obtain ⟨d, ⟨lo, hi⟩, hd⟩ := last_split (l := clTo p k) (by rintro he; rw [he] at hlen; simp at hlen; omega)
      have hdl : on = d.length + 1 := by rw [hlen, hd]; simp
      have e : IntKind.i64.wrap ((on : Int) - 1) = ((d.length : Nat) : Int) := by rw [w64 (by omega) (by omega)]; omega
      have e2 : (IntKind.i64.wrap ((on : Int) - 1)).toNat = d.length := by rw [e, tn]
      rw [e2]
      refine ⟨⟨by omega, by omega⟩, ldInt (hO.get (by rw [hd, Nat.zero_add]; exact flat_last)) ?_⟩
      rw [w64 (x := (k : Int) - 1) (by omega) (by omega)]
      refine fin _ (fun hx => ⟨d, lo, by rw [hd]; simp at hx; rw [hx]⟩) (fun hx s hs => ?_) hp
      rw [hd] at hs
      simp at hs hx
      rw [← hs]; exact hx
    · rw [w64 (by omega) (by omega)] at hn
      exact fin false (fun h => by cases h) (fun _ s hs => by have : clTo p k = [] := List.length_eq_zero_iff.1 (by omega)
                                                              rw [this] at hs; simp at hs) hp
  · rw [J_impl_bytes256_class_1_eq hD]
    refine ⟨ob, on, oc, rfl, ?_, hE⟩
    rw [show k = 256 by omega] at hO
    exact ⟨hO.1, hO.2.imp id fun ⟨h1, h2⟩ => ⟨by omega, h2⟩⟩

end Go.Proofs.YtpjkammmoaeheaaDoor.Aw

/- Contracts: classes put together. -/
set_option linter.unusedSimpArgs false
set_option linter.unusedVariables false
set_option maxRecDepth 10000
namespace Go.Proofs.YtpjkammmoaeheaaDoor.Aw
open Go Go.RowKit

theorem bV_fit (n : Nat) (p q : Nat → Bool) : 0 + (bV n p).length ≤ (bV n q).length := by rw [bV_len, bV_len]; omega
theorem bV_same (n : Nat) (p q : Nat → Bool) : (bV n p).length = (bV n q).length := by rw [bV_len, bV_len]

def rl (r : Int) (x y : Bool) : Bool := if r = 0 then x || y else if r = 1 then x && y else if r = 2 then x && !y else x

theorem NewCls.none {H H1 : AH} (h : Ext0 H H1) : NewCls H [] (.sl H1.length 0 0 (.ex 0)) (H1 ++ [Blk.cells [] false]) :=
  ⟨_, _, _, rfl, Own.lit (by rfl) h.1 (Nat.zero_le _), h.trans (Ext.app _ _ _)⟩
theorem NewCls.behind {H H1 H2 : AH} {c : Cls} {r : V} (h : Ext0 H H1) (k : NewCls H1 c r H2) : NewCls H c r H2 := by
  obtain ⟨b, n, cp, rfl, ho, he⟩ := k
  exact ⟨b, n, cp, rfl, ⟨ho.1, ho.2.imp id fun ⟨h1, h2⟩ => ⟨Nat.le_trans h.1 h1, h2⟩⟩, h.trans he⟩
theorem NewCls.isSl {H H' : AH} {c : Cls} {r : V} (h : NewCls H c r H') : ∃ b n cp, r = .sl b 0 n cp := by
  obtain ⟨b, n, cp, rfl, _⟩ := h
  exact ⟨_, _, _, rfl⟩

theorem c_l1Both {F : Nat → Prop} {H : AH} {va vb : V} {a b : Cls} {rule : Int} (ha : IsSpans F H va a) (hb : IsSpans F H vb b) : CallsA prog spec_l1Both [va, vb, .int .i64 rule] H fun r H' => (COk a ∧ COk b → NewCls H (cls fun x => rl rule (mk a x) (mk b x)) r H') ∧ (¬ (COk a ∧ COk b) → NewCls H [] r H') := by
  have ha0 := ha; have hb0 := hb
  obtain ⟨ab, ai, ac, rfl, -⟩ := ha
  obtain ⟨bb, bi, bc, rfl, -⟩ := hb
  refine spec_l1Both_in fun D hD => ?_
  rw [spec_l1Both_eq hD]
  refine (c_specClassOk ha0).use ?_
  rintro _ _ ⟨⟨t, rfl, ht⟩, rfl⟩
  refine splNot (fun h => ?_) (fun h => ?_)
  · rw [J_spec_l1Both_2_eq hD]
    refine splT rfl ?_
    exact ⟨fun hh => (by have := ht.2 hh.1; rw [h] at this; cases this), fun _ => NewCls.none (Ext.refl _ _)⟩
  refine (c_specClassOk hb0).use ?_
  rintro _ H ⟨⟨u, rfl, hu⟩, rfl⟩
  refine asBoolI ?_
  rw [J_spec_l1Both_2_eq hD]
  refine splNot (fun hx => ⟨fun hh => (by have := hu.2 hh.2; rw [hx] at this; cases this), fun _ => NewCls.none (Ext.refl _ _)⟩) (fun hx => ?_)
  have oa := ht.1 h
  have ob := hu.1 hx
  rw [J_spec_l1Both_1_eq hD]
  refine (c_l1Marks ha0 oa).use ?_
  rintro _ H1 ⟨rfl, hX, hE1⟩
  have hl1 := get_lt hX
  refine (c_l1Marks (hb0.keep (loc_e2 _) (hE1.agree fun _ _ => id)) ob).use ?_
  rintro _ H2 ⟨rfl, hY, hE2⟩
  refine loopUp (σ := Unit) 256 (fun k _ => [(9, .int .i64 k), (2, .int .i64 rule), (7, .sl H.length 0 256 (.ex 256)), (8, .sl H1.length 0 256 (.ex 256))])
    (fun k _ H' => Ext0 H H' ∧ H'[H.length]? = some (.cells (bV 256 fun t => if t < k then rl rule (mk a t) (mk b t) else mk a t) false) ∧ H'[H1.length]? = some (.cells (bV 256 (mk b)) false)) () rfl
    ⟨hE1.trans hE2, by rw [hE2.get hX id]; congr 2, hY⟩ ?_
  rintro k - H3 hk ⟨hE, hA, hB⟩
  rw [L_spec_l1Both_4_eq hD]
  refine splD (fun h => ?_) (fun h => ?_)
  · have hk2 : k < 256 := by omega
    have ga : H3.cell H.length (0 + ((k : Int)).toNat * 1) = some (.bool (mk a k)) := by
      rw [tn, Nat.zero_add, Nat.mul_one, bcell hA hk2, if_neg (by omega)]
    have gb : H3.cell H1.length (0 + ((k : Int)).toNat * 1) = some (.bool (mk b k)) := by
      rw [tn, Nat.zero_add, Nat.mul_one, bcell hB hk2]
    have fin : ∀ (x : Bool), x = rl rule (mk a k) (mk b k) → stK H3 H.length (0 + ((k : Int)).toNat * 1) [V.bool x] fun H' => J_spec_l1Both_6 D (fun r H' => (COk a ∧ COk b → NewCls H (cls fun x => rl rule (mk a x) (mk b x)) r H') ∧ (¬ (COk a ∧ COk b) → NewCls H [] r H')) (Nxt 256 (fun k _ => [(9, .int .i64 k), (2, .int .i64 rule), (7, .sl H.length 0 256 (.ex 256)), (8, .sl H1.length 0 256 (.ex 256))])
    (fun k (_ : Unit) H' => Ext0 H H' ∧ H'[H.length]? = some (.cells (bV 256 fun t => if t < k then rl rule (mk a t) (mk b t) else mk a t) false) ∧ H'[H1.length]? = some (.cells (bV 256 (mk b)) false)) k) [(9, .int .i64 k), (2, .int .i64 rule), (7, .sl H.length 0 256 (.ex 256)), (8, .sl H1.length 0 256 (.ex 256))] H' := by
      intro x hx
      refine bst (fun t => if t < k + 1 then rl rule (mk a t) (mk b t) else mk a t) hA (by rw [tn]; omega) (fun t ht => ?_) ?_
      · rw [tn, Nat.zero_add, Nat.mul_one, hx]
        by_cases e : t = k
        · subst e; rw [if_pos (by omega), if_pos rfl]
        · rw [if_neg e]
          by_cases e2 : t < k
          · rw [if_pos (by omega), if_pos e2]
          · rw [if_neg (by omega), if_neg e2]
      · rw [J_spec_l1Both_6_eq hD, inc (by omega)]
        exact nxt () hk2 rfl ⟨hE.new (Ext.set _ _ _ (.inr (Nat.le_refl _))), get_set _ (get_lt hA), (Ext.set (X := fun x => x = H.length) _ _ _ rfl).get hB (by omega)⟩
    rw [J_spec_l1Both_5_eq hD]
    have ib : inB (k : Int) 256 := ⟨by omega, by omega⟩
    refine splE (fun h0 => ⟨ib, ldBool ga (spl (fun hx => ⟨ib, fin true (by simp [rl, h0, hx])⟩) (fun hx => ⟨ib, ldBool gb ⟨ib, fin _ (by simp [rl, h0, hx])⟩⟩))⟩) (fun h0 => ?_)
    refine splE (fun h1 => ⟨ib, ldBool ga (spl (fun hx => ⟨ib, ldBool gb ⟨ib, fin _ (by simp [rl, h1, hx])⟩⟩) (fun hx => ⟨ib, fin _ (by simp [rl, h1, hx])⟩))⟩) (fun h1 => ?_)
    refine splE (fun h2 => ⟨ib, ldBool ga (spl (fun hx => ⟨ib, ldBool gb ⟨ib, fin _ (by simp [rl, h2, hx])⟩⟩) (fun hx => ⟨ib, fin _ (by simp [rl, h2, hx])⟩))⟩) (fun h2 => ?_)
    rw [J_spec_l1Both_6_eq hD, inc (by omega)]
    refine nxt () hk2 rfl ⟨hE, ?_, hB⟩
    rw [hA, bV_congr]
    intro t ht
    by_cases e2 : t < k
    · rw [if_pos e2, if_pos (by omega)]
    · rw [if_neg e2]; simp [rl, h0, h1, h2]
  · rw [J_spec_l1Both_3_eq hD]
    have hA' : H3[H.length]? = some (.cells (bV 256 fun t => rl rule (mk a t) (mk b t)) false) := by
      rw [hA, bV_congr]; intro t ht; rw [if_pos (by omega)]
    refine (c_l1Class (bRow (F := fun _ => True) hA' trivial (by omega))).use ?_
    intro r H' hr
    obtain ⟨b', n', c', rfl⟩ := hr.isSl
    exact ⟨fun _ => hr.behind hE, fun hn => absurd ⟨oa, ob⟩ hn⟩

theorem c_specWithout {F : Nat → Prop} {H : AH} {va vb : V} {a b : Cls} (ha : IsSpans F H va a) (hb : IsSpans F H vb b) : CallsA prog spec_Without [va, vb] H fun r H' => (COk a ∧ COk b → NewCls H (cls fun x => mk a x && !mk b x) r H') ∧ (¬ (COk a ∧ COk b) → NewCls H [] r H') := by
  have ha0 := ha; have hb0 := hb
  obtain ⟨ab, ai, ac, rfl, -⟩ := ha
  obtain ⟨bb, bi, bc, rfl, -⟩ := hb
  refine spec_Without_in fun D hD => ?_
  rw [spec_Without_eq hD]
  refine (c_l1Both ha0 hb0).use ?_
  intro r H' hr
  by_cases ok : COk a ∧ COk b
  · obtain ⟨b', n', c', rfl⟩ := (hr.1 ok).isSl
    exact hr
  · obtain ⟨b', n', c', rfl⟩ := (hr.2 ok).isSl
    exact hr

/-- What 'Others' tells. -/
noncomputable def othersOf (c : Cls) : Cls := by
  classical exact if COk c then cls (fun x => !mk c x) else []

theorem c_specOthers {F : Nat → Prop} {H : AH} {v : V} {c : Cls} (hc : IsSpans F H v c) : CallsA prog spec_Others [v] H fun r H' => NewCls H (othersOf c) r H' := by
  have hc0 := hc
  obtain ⟨b, i, cp, rfl, -⟩ := hc
  refine spec_Others_in fun D hD => ?_
  rw [spec_Others_eq hD]
  refine (c_specClassOk hc0).use ?_
  rintro _ H ⟨⟨t, rfl, ht⟩, rfl⟩
  refine splNot (fun h => ?_) (fun h => ?_)
  · have : othersOf c = [] := by unfold othersOf; rw [if_neg (fun hk => by have := ht.2 hk; rw [h] at this; cases this)]
    rw [this]
    exact NewCls.none (Ext.refl _ _)
  · have ok := ht.1 h
    rw [J_spec_Others_1_eq hD]
    have hE : Ext0 H (H ++ [Blk.cells [V.int .i64 0, V.int .i64 255] false]) := Ext.app _ _ _
    have hall : IsSpans (fun _ => True) (H ++ [Blk.cells [V.int .i64 0, V.int .i64 255] false]) (.sl H.length 0 1 (.ex 1)) [(0, 255)] := IsRow.of_block2 (l := [(0, 255)]) (get_new _ _) trivial (by simp)
    refine (c_specWithout hall ((hc0.keep (loc_e2 _) (hE.agree fun _ _ => id)).mono fun _ _ => trivial)).use ?_
    intro r H' hr
    have okall : COk [(0, 255)] := by
      intro i s hs
      cases i with
      | zero => simp at hs; subst hs; refine ⟨by simp, by simp, by simp, fun p h0 => absurd rfl h0⟩
      | succ i => simp at hs
    have hr := hr.1 ⟨okall, ok⟩
    have e : cls (fun x => mk [(0, 255)] x && !mk c x) = othersOf c := by
      unfold othersOf; rw [if_pos ok]
      exact clTo_congr fun x hx => by rw [mk_one, decide_eq_true (by simp only; omega), Bool.true_and]
    rw [e] at hr
    obtain ⟨b', n', c', rfl⟩ := hr.isSl
    exact hr.behind hE

/-- Whether a text has a byte. -/
def hasB (s : List UInt8) (b : Nat) : Bool := s.any fun x => x.toNat == b
theorem c_specClassOf {H : AH} {s : List UInt8} (hs : s.length ≤ 140737488355328) : CallsA prog spec_ClassOf [.str s] H fun r H' => NewCls H (cls (hasB s)) r H' := by
  refine spec_ClassOf_in fun D hD => ?_
  rw [spec_ClassOf_eq hD, bV_rep]
  refine ⟨⟨by omega, by omega, by omega, by omega⟩, ?_⟩
  refine loopUp (σ := Unit) s.length (fun k _ => [(4, .int .i64 k), (3, .sl H.length 0 256 (.ex 256)), (0, .str s)]) (fun k _ H' => Ext0 H H' ∧ H'[H.length]? = some (.cells (bV 256 (hasB (s.take k))) false)) () rfl ⟨Ext.app _ _ _, get_new _ _⟩ ?_
  rintro k - H1 hk ⟨hE, hB⟩
  rw [L_spec_ClassOf_2_eq hD]
  refine splD (fun h => ?_) (fun h => ?_)
  · have hkl : k < s.length := by omega
    rw [J_spec_ClassOf_3_eq hD]
    have hx : byteAt s k = s[k] := by simp [byteAt, hkl]
    have h256 : (s[k]).toNat < 256 := (s[k]).toNat_lt
    rw [hx, tn]
    refine ⟨⟨by omega, by omega⟩, ⟨by omega, by omega⟩, bst (hasB (s.take (k + 1))) hB (by omega) (fun t ht => ?_) ?_⟩
    · rw [List.take_succ_eq_append_getElem hkl]
      simp only [hasB, List.any_append, List.any_cons, List.any_nil, Bool.or_false]
      by_cases e : t = 0 + (s[k]).toNat * 1
      · rw [if_pos e]
        have : ((s[k]).toNat == t) = true := by rw [e]; simp
        rw [this, Bool.or_true]
      · rw [if_neg e]
        have : ((s[k]).toNat == t) = false := by simp; omega
        rw [this, Bool.or_false]
    · rw [J_spec_ClassOf_4_eq hD, inc (by omega)]
      exact nxt () hkl rfl ⟨hE.new (Ext.set _ _ _ (.inr (Nat.le_refl _))), get_set _ (get_lt hB)⟩
  · rw [J_spec_ClassOf_1_eq hD]
    rw [show k = s.length by omega, List.take_length] at hB
    refine (c_l1Class (bRow (F := fun _ => True) hB trivial (by omega))).use ?_
    intro r H' hr
    obtain ⟨b', n', c', rfl⟩ := hr.isSl
    exact hr.behind hE

/-! ### The program's -/
theorem c_Joined1 (x y : Bool) (H : AH) : CallsA prog impl_Joined_1 [.bool x, .bool y] H fun r H' => r = .bool (x || y) ∧ H' = H := by
  refine impl_Joined_1_in fun D hD => ?_
  rw [impl_Joined_1_eq hD]
  refine spl (fun h => ?_) (fun h => ?_) <;> rw [J_impl_Joined_1_1_eq hD] <;> simp [h]

theorem c_combined {F : Nat → Prop} {H : AH} {va vb : V} {a b : Cls} {f : Nat} {fa fc : List V} {op : Bool → Bool → Bool} (ha : IsSpans F H va a) (hb : IsSpans F H vb b)
    (hf : ∀ x y H, CallsA prog f (fa ++ [.bool x, .bool y] ++ fc) H fun r H' => r = .bool (op x y) ∧ H' = H) :
    CallsA prog impl_combined [va, vb, .fn f fa fc] H fun r H' => (COk a ∧ COk b → NewCls H (cls fun x => op (mk a x) (mk b x)) r H') ∧ (¬ (COk a ∧ COk b) → r = .sl 0 0 0 .nil ∧ Ext0 H H') := by
  have ha0 := ha; have hb0 := hb
  obtain ⟨ab, ai, ac, rfl, -⟩ := ha
  obtain ⟨bb, bi, bc, rfl, -⟩ := hb
  refine impl_combined_in fun D hD => ?_
  rw [impl_combined_eq hD]
  refine (c_implClassOk ha0).use ?_
  rintro _ H1 ⟨⟨t, rfl, ht⟩, hE1⟩
  refine splNot (fun h => ?_) (fun h => ?_)
  · rw [J_impl_combined_2_eq hD]
    refine splT rfl ?_
    exact ⟨fun hh => (by have := ht.2 hh.1; rw [h] at this; cases this), fun _ => ⟨rfl, hE1⟩⟩
  have hb1 := hb0.keep (loc_e2 _) (hE1.agree fun _ _ => id)
  refine (c_implClassOk hb1).use ?_
  rintro _ H2 ⟨⟨u, rfl, hu⟩, hE2⟩
  have hE12 := hE1.trans hE2
  refine asBoolI ?_
  rw [J_impl_combined_2_eq hD]
  refine splNot (fun hx => ⟨fun hh => (by have := hu.2 hh.2; rw [hx] at this; cases this), fun _ => ⟨rfl, hE12⟩⟩) (fun hx => ?_)
  have oa := ht.1 h
  have ob := hu.1 hx
  rw [J_impl_combined_1_eq hD]
  refine (c_bytesOf (ha0.keep (loc_e2 _) (hE12.agree fun _ _ => id)) oa).use ?_
  rintro _ H3 ⟨rfl, hE3⟩
  have hE123 := hE12.trans hE3
  refine (c_bytesOf (hb0.keep (loc_e2 _) (hE123.agree fun _ _ => id)) ob).use ?_
  rintro _ H4 ⟨rfl, hE4⟩
  have hE := hE123.trans hE4
  refine obI (bV_ok _ _) ?_
  simp only [V.cells, bV_rep]
  have l1 : (H4 ++ [Blk.cells (bV 256 fun _ => false) false]).length = H4.length + 1 := by simp
  have l2 : (H4 ++ [Blk.cells (bV 256 fun _ => false) false] ++ [Blk.cells (bV 256 fun _ => false) false]).length = H4.length + 2 := by simp
  rw [l1, l2]
  generalize hT : H4 ++ [Blk.cells (bV 256 fun _ => false) false] ++ [Blk.cells (bV 256 fun _ => false) false] ++ [Blk.cells (bV 256 fun _ => false) false] = T
  have tl : T.length = H4.length + 3 := by rw [← hT]; simp
  have t0 : T[H4.length]? = some (.cells (bV 256 fun _ => false) false) := by rw [← hT, List.getElem?_append_left (by simp), List.getElem?_append_left (by simp)]; exact get_new _ _
  have t1 : T[H4.length + 1]? = some (.cells (bV 256 fun _ => false) false) := by rw [← hT, List.getElem?_append_left (by simp), ← l1]; exact get_new _ _
  have t2 : T[H4.length + 2]? = some (.cells (bV 256 fun _ => false) false) := by rw [← hT, ← l2]; exact get_new _ _
  have hET : Ext0 H T := by rw [← hT]; exact ((hE.trans (Ext.app _ _ _)).trans (Ext.app _ _ _)).trans (Ext.app _ _ _)
  have hHl := hE.1
  refine stN t0 (bV_fit _ _ _) ?_
  rw [putL_all (bV_same _ _ _)]
  refine obI (bV_ok _ _) (stN ((Ext.set (X := fun x => x = H4.length) _ _ _ rfl).get t1 (by omega)) (bV_fit _ _ _) ?_)
  rw [putL_all (bV_same _ _ _)]
  generalize hU : T.set H4.length (.cells (bV 256 (mk a)) false) = U
  have u0 : U[H4.length]? = some (.cells (bV 256 (mk a)) false) := by rw [← hU]; exact get_set _ (by omega)
  have hEU : Ext (fun x => x = H4.length) T U := by rw [← hU]; exact Ext.set _ _ _ rfl
  have ul : U.length = H4.length + 3 := by rw [← hU, List.length_set, tl]
  generalize hV : U.set (H4.length + 1) (.cells (bV 256 (mk b)) false) = W
  have v1 : W[H4.length + 1]? = some (.cells (bV 256 (mk b)) false) := by rw [← hV]; exact get_set _ (by omega)
  have hEV : Ext (fun x => x = H4.length + 1) U W := by rw [← hV]; exact Ext.set _ _ _ rfl
  have v2 : W[H4.length + 2]? = some (.cells (bV 256 fun _ => false) false) := hEV.get (hEU.get t2 (by omega)) (by omega)
  have vl : W.length = H4.length + 3 := by rw [← hV, List.length_set, ul]
  refine stN v2 (bV_fit _ _ _) ?_
  rw [putL_all (bV_same _ _ _)]
  generalize hZ : W.set (H4.length + 2) (.cells (bV 256 fun _ => false) false) = Z
  have hEZ : Ext (fun x => x = H4.length + 2) W Z := by rw [← hZ]; exact Ext.set _ _ _ rfl
  have z2 : Z[H4.length + 2]? = some (.cells (bV 256 fun _ => false) false) := by rw [← hZ]; exact get_set _ (by omega)
  have hEE : Ext0 H Z := ((hET.new (hEU.mono fun x _ hx => .inr (by omega))).new (hEV.mono fun x _ hx => .inr (by omega))).new (hEZ.mono fun x _ hx => .inr (by omega))
  refine loopUp (σ := Unit) 256 (fun k _ => [(24, .int .i64 k), (2, .fn f fa fc), (7, .ptr H4.length 0), (8, .ptr (H4.length + 1) 0), (9, .ptr (H4.length + 2) 0)])
    (fun k _ H' => Ext0 H H' ∧ H'[H4.length]? = some (.cells (bV 256 (mk a)) false) ∧ H'[H4.length + 1]? = some (.cells (bV 256 (mk b)) false) ∧ H'[H4.length + 2]? = some (.cells (bV 256 fun t => decide (t < k) && op (mk a t) (mk b t)) false)) () rfl
    ⟨hEE, hEZ.get (hEV.get u0 (by omega)) (by omega), hEZ.get v1 (by omega), by rw [z2]; congr 2⟩ ?_
  rintro k - H5 hk ⟨hE5, hA, hB, hO⟩
  rw [L_impl_combined_4_eq hD]
  refine splD (fun h => ?_) (fun h => ?_)
  · have hk2 : k < 256 := by omega
    have ib : inB (k : Int) 256 := ⟨by omega, by omega⟩
    rw [J_impl_combined_5_eq hD, tn]
    refine ⟨ib, ldBool (bcell hA (by omega)) ⟨ib, ldBool (bcell hB (by omega)) ((hf _ _ _).use ?_)⟩⟩
    rintro _ H5 ⟨rfl, rfl⟩
    refine ⟨ib, bst (fun t => decide (t < k + 1) && op (mk a t) (mk b t)) hO (by omega) (fun t ht => ?_) ?_⟩
    · by_cases e : t = 0 + k * 1
      · rw [if_pos e, decide_eq_true (by omega), Bool.true_and, e]
      · rw [if_neg e]; congr 1; exact decide_eq_decide.2 (by omega)
    · rw [J_impl_combined_6_eq hD, inc (by omega)]
      have hS : ∀ B, Ext (fun x => x = H4.length + 2) H5 (H5.set (H4.length + 2) B) := fun B => Ext.set _ _ _ rfl
      exact nxt () hk2 rfl ⟨hE5.new ((hS _).mono fun x _ hx => .inr (by omega)), (hS _).get hA (by omega), (hS _).get hB (by omega), get_set _ (get_lt hO)⟩
  · rw [J_impl_combined_3_eq hD]
    have hO' : H5[H4.length + 2]? = some (.cells (bV 256 fun t => op (mk a t) (mk b t)) false) := by
      rw [hO, bV_congr]; intro t ht; rw [decide_eq_true (by omega), Bool.true_and]
    have hcn := (Cells.of_block hO').cellsN
    rw [bV_len] at hcn
    refine cellsI hcn (c_implclass.use ?_)
    intro r H' hr
    obtain ⟨b', n', c', rfl⟩ := hr.isSl
    exact ⟨fun _ => hr.behind hE5, fun hn => absurd ⟨oa, ob⟩ hn⟩

theorem c_Joined {F : Nat → Prop} {H : AH} {va vb : V} {a b : Cls} (ha : IsSpans F H va a) (hb : IsSpans F H vb b) :
    CallsA prog impl_Joined [va, vb] H fun r H' => (COk a ∧ COk b → NewCls H (cls fun x => mk a x || mk b x) r H') ∧ (¬ (COk a ∧ COk b) → r = .sl 0 0 0 .nil ∧ Ext0 H H') := by
  have ha0 := ha; have hb0 := hb
  obtain ⟨ab, ai, ac, rfl, -⟩ := ha
  obtain ⟨bb, bi, bc, rfl, -⟩ := hb
  refine impl_Joined_in fun D hD => ?_
  rw [impl_Joined_eq hD]
  refine (c_combined (op := fun x y => x || y) ha0 hb0 (fun x y H => c_Joined1 x y H)).use ?_
  intro r H' hr
  by_cases ok : COk a ∧ COk b
  · obtain ⟨b', n', c', rfl⟩ := (hr.1 ok).isSl
    exact hr
  · obtain ⟨rfl, _⟩ := hr.2 ok
    exact hr

theorem c_ClassHas {F : Nat → Prop} {H : AH} {v : V} {c : Cls} {x : Int} (hc : IsSpans F H v c) (ok : COk c) (h0 : 0 ≤ x) (h1 : x ≤ 255) : CallsA prog impl_ClassHas [v, .int .u8 x] H fun r H' => r = .bool (mk c x.toNat) ∧ Ext0 H H' := by
  have hc0 := hc
  obtain ⟨b, i, cp, rfl, -⟩ := hc
  refine impl_ClassHas_in fun D hD => ?_
  rw [impl_ClassHas_eq hD]
  refine (c_implClassOk hc0).use ?_
  rintro _ H1 ⟨⟨t, rfl, ht⟩, hE1⟩
  refine splT (ht.2 ok) ((c_bytesOf (hc0.keep (loc_e2 _) (hE1.agree fun _ _ => id)) ok).use ?_)
  rintro _ H2 ⟨rfl, hE2⟩
  refine ⟨⟨h0, by omega⟩, getI (bV_get (by omega)) ?_⟩
  show J_impl_ClassHas_1 D _ _ _
  rw [J_impl_ClassHas_1_eq hD]
  exact ⟨by rw [Nat.mul_one], hE1.trans hE2⟩

end Go.Proofs.YtpjkammmoaeheaaDoor.Aw

/- Contracts: the reader of draws: bytes, numbers, classes, texts. -/
set_option linter.unusedSimpArgs false
set_option linter.unusedVariables false
set_option maxRecDepth 10000
namespace Go.Proofs.YtpjkammmoaeheaaDoor.Aw
open Go Go.RowKit

/-- A reader of draws lies in block rb: its bytes lie below. -/
def Rd (H : AH) (rb : Nat) : Prop := ∃ cb ci cn cc p, H[rb]? = some (.cells [.sl cb ci cn cc, .int .i64 p] false) ∧ 0 ≤ p ∧ p ≤ (cn : Int) ∧ cn ≤ 1048576 ∧ cb < rb ∧ ∀ k, k < cn → ∃ x, H.cell cb (ci + k * 1) = some (.int .u8 x) ∧ 0 ≤ x ∧ x ≤ 255

theorem Rd.keep {H H' : AH} {rb : Nat} {X : Nat → Prop} (h : Rd H rb) (he : Ext X H H') (hx : ∀ x, x ≤ rb → ¬ X x) : Rd H' rb := by
  obtain ⟨cb, ci, cn, cc, p, h1, h2, h3, h4, h5, h6⟩ := h
  refine ⟨cb, ci, cn, cc, p, he.get h1 (hx _ (Nat.le_refl _)), h2, h3, h4, h5, fun k hk => ?_⟩
  obtain ⟨x, h7, h8⟩ := h6 k hk
  exact ⟨x, he.cell h7 (hx _ (by omega)), h8⟩
theorem Rd.keep0 {H H' : AH} {rb : Nat} (h : Rd H rb) (he : Ext0 H H') : Rd H' rb := h.keep he fun _ _ => id
theorem Rd.lt {H : AH} {rb : Nat} (h : Rd H rb) : rb < H.length := by
  obtain ⟨cb, ci, cn, cc, p, h1, _⟩ := h
  exact get_lt h1

/-- What a draw leaves: the reader further on, all else as it was. -/
def Drew (H : AH) (rb : Nat) (H' : AH) : Prop := Rd H' rb ∧ Ext (fun x => x = rb) H H'
theorem Drew.refl {H : AH} {rb : Nat} (h : Rd H rb) : Drew H rb H := ⟨h, Ext.refl _ _⟩
theorem Drew.trans {H H1 H2 : AH} {rb : Nat} (h : Drew H rb H1) (k : Drew H1 rb H2) : Drew H rb H2 := ⟨k.1, h.2.trans k.2⟩
theorem Drew.ext0 {H H1 H2 : AH} {rb : Nat} (h : Drew H rb H1) (k : Ext0 H1 H2) : Drew H rb H2 := ⟨h.1.keep0 k, h.2.trans k.of0⟩
theorem Drew.new {H H1 H2 : AH} {rb : Nat} {X : Nat → Prop} (h : Drew H rb H1) (hl : rb < H.length) (k : Ext X H1 H2) (hx : ∀ x, X x → H.length ≤ x) : Drew H rb H2 := ⟨h.1.keep k fun x hx1 hx2 => by have := hx x hx2; omega, h.2.new (k.mono fun x _ h => .inr (hx x h))⟩

theorem c_open {H : AH} {b i n : Nat} {c : Cap} (hn : n ≤ 1048576) (hb : b < H.length) (hc : ∀ k, k < n → ∃ x, H.cell b (i + k * 1) = some (.int .u8 x) ∧ 0 ≤ x ∧ x ≤ 255) :
    CallsA prog spec_l1Open [.sl b i n c] H fun v H' => v = .ptr H.length 0 ∧ Rd H' H.length ∧ Ext0 H H' ∧ H'.length = H.length + 1 := by
  refine spec_l1Open_in fun D hD => ?_
  rw [spec_l1Open_eq hD]
  refine ⟨rfl, ⟨b, i, n, c, 0, get_new _ _, by omega, by omega, hn, hb, fun k hk => ?_⟩, Ext.app _ _ _, by simp⟩
  obtain ⟨x, h1, h2⟩ := hc k hk
  exact ⟨x, (Ext.app (fun _ => False) _ _).cell h1 id, h2⟩

theorem c_next {H : AH} {rb : Nat} (hr : Rd H rb) : CallsA prog spec_l1Rd_next [.ptr rb 0] H fun v H' => (∃ x, v = .int .i64 x ∧ 0 ≤ x ∧ x ≤ 255) ∧ Drew H rb H' := by
  have hr0 := hr
  obtain ⟨cb, ci, cn, cc, p, h1, h2, h3, h4, h5, h6⟩ := hr
  refine spec_l1Rd_next_in fun D hD => ?_
  rw [spec_l1Rd_next_eq hD]
  refine ldInt (cell_of (i := 1) h1 rfl) (ldSl (cell_of (i := 0) h1 rfl) (splD (fun h => ⟨⟨0, rfl, by omega, by omega⟩, Drew.refl hr0⟩) (fun h => ?_)))
  rw [J_spec_l1Rd_next_1_eq hD]
  refine ldInt (cell_of (i := 1) h1 rfl) (stI h1 (by simp) ?_)
  rw [w64 (by omega) (by omega)]
  generalize hG : H.set rb (.cells ([V.sl cb ci cn cc, .int .i64 p].set (0 + 1) (.int .i64 (p + 1))) false) = G
  have hE : Ext (fun x => x = rb) H G := by rw [← hG]; exact Ext.set _ _ _ rfl
  have g1 : G[rb]? = some (.cells [.sl cb ci cn cc, .int .i64 (p + 1)] false) := by rw [← hG]; exact get_set _ (get_lt h1)
  obtain ⟨x, hx1, hx2, hx3⟩ := h6 p.toNat (by omega)
  refine ldSl (cell_of (i := 0) g1 rfl) (ldInt (cell_of (i := 1) g1 rfl) ?_)
  rw [w64 (by omega) (by omega), show p + 1 - 1 = p by omega]
  refine ⟨⟨h2, by omega⟩, ldInt (hE.cell hx1 (by omega)) ⟨⟨_, rfl, ?_, ?_⟩, ⟨cb, ci, cn, cc, p + 1, g1, by omega, by omega, h4, h5, fun k hk => ?_⟩, hE⟩⟩
  · rw [w64 (by omega) (by omega)]; exact hx2
  · rw [w64 (by omega) (by omega)]; exact hx3
  · obtain ⟨x, h7, h8⟩ := h6 k hk
    exact ⟨x, hE.cell h7 (by omega), h8⟩

theorem c_below {H : AH} {rb : Nat} {n : Int} (hr : Rd H rb) : CallsA prog spec_l1Rd_below [.ptr rb 0, .int .i64 n] H fun v H' => (∃ x, v = .int .i64 x ∧ 0 ≤ x ∧ (x < n ∨ x = 0)) ∧ Drew H rb H' := by
  refine spec_l1Rd_below_in fun D hD => ?_
  rw [spec_l1Rd_below_eq hD]
  refine splD (fun h => ⟨⟨0, rfl, by omega, by omega⟩, Drew.refl hr⟩) (fun h => ?_)
  rw [J_spec_l1Rd_below_1_eq hD]
  refine splD (fun h1 => (c_next hr).use ?_) (fun h1 => ?_)
  · rintro _ H1 ⟨⟨x, rfl, x0, x1⟩, hd⟩
    refine asIntI ⟨by unfold nz; omega, ⟨_, rfl, Int.tmod_nonneg _ x0, .inl (Int.tmod_lt_of_pos _ (by omega))⟩, hd⟩
  · rw [J_spec_l1Rd_below_2_eq hD]
    refine (c_next hr).use ?_
    rintro _ H1 ⟨⟨x, rfl, x0, x1⟩, hd⟩
    refine asIntI ((c_next hd.1).use ?_)
    rintro _ H2 ⟨⟨y, rfl, y0, y1⟩, hd2⟩
    refine asIntI ⟨by unfold nz; omega, ⟨_, rfl, ?_, .inl (Int.tmod_lt_of_pos _ (by omega))⟩, hd.trans hd2⟩
    rw [w64 (x := x * 256) (by omega) (by omega), w64 (by omega) (by omega)]
    exact Int.tmod_nonneg _ (by omega)

theorem c_once {H : AH} {rb : Nat} {n : Int} (hr : Rd H rb) : CallsA prog spec_l1Rd_once [.ptr rb 0, .int .i64 n] H fun v H' => (∃ b, v = .bool b) ∧ Drew H rb H' := by
  refine spec_l1Rd_once_in fun D hD => ?_
  rw [spec_l1Rd_once_eq hD]
  refine (c_below hr).use ?_
  rintro _ H1 ⟨⟨x, rfl, -⟩, hd⟩
  exact asIntI ⟨⟨_, rfl⟩, hd⟩

theorem c_word {H : AH} {rb : Nat} (hr : Rd H rb) : CallsA prog spec_l1Rd_word [.ptr rb 0] H fun v H' => (∃ x, v = .int .u64 x) ∧ Drew H rb H' := by
  refine spec_l1Rd_word_in fun D hD => ?_
  rw [spec_l1Rd_word_eq hD]
  refine loopUp (σ := Int) 8 (fun k s => [(3, .int .u64 s), (4, .int .i64 k), (0, .ptr rb 0)]) (fun k _ H' => Drew H rb H') 0 rfl (Drew.refl hr) ?_
  rintro k s H1 hk hd
  rw [L_spec_l1Rd_word_2_eq hD]
  refine splD (fun h => ?_) (fun h => ?_)
  · rw [J_spec_l1Rd_word_3_eq hD]
    refine ⟨by unfold nn; omega, (c_next hd.1).use ?_⟩
    rintro _ H2 ⟨⟨x, rfl, -⟩, hd2⟩
    refine asIntI ?_
    rw [J_spec_l1Rd_word_4_eq hD, inc (by omega)]
    exact nxt _ (by omega) rfl (hd.trans hd2)
  · rw [J_spec_l1Rd_word_1_eq hD]
    exact ⟨⟨_, rfl⟩, hd⟩

theorem c_near {H : AH} {rb : Nat} {lo hi : Int} (hr : Rd H rb) (h1 : -2305843009213693952 ≤ lo) (h2 : lo ≤ 2305843009213693952) (h3 : -2305843009213693952 ≤ hi) (h4 : hi ≤ 2305843009213693952) : CallsA prog spec_l1Rd_near [.ptr rb 0, .int .i64 lo, .int .i64 hi] H fun v H' => (∃ x, v = .int .i64 x) ∧ Drew H rb H' := by
  refine spec_l1Rd_near_in fun D hD => ?_
  rw [spec_l1Rd_near_eq hD]
  refine (c_below hr).use ?_
  rintro _ H1 ⟨⟨x, rfl, -⟩, hd⟩
  refine asIntI (splE (fun h => ⟨⟨_, rfl⟩, hd⟩) (fun h => splE (fun h => ⟨⟨_, rfl⟩, hd⟩) (fun h => ?_)))
  rw [J_spec_l1Rd_near_1_eq hD]
  refine splD (fun h => ⟨⟨_, rfl⟩, hd⟩) (fun h => ?_)
  rw [J_spec_l1Rd_near_2_eq hD]
  refine (c_word hd.1).use ?_
  rintro _ H2 ⟨⟨x, rfl⟩, hd2⟩
  refine asIntI ⟨by unfold nn; omega, ?_, ⟨_, rfl⟩, hd.trans hd2⟩
  unfold nz
  rw [w64 (x := hi - lo) (by omega) (by omega), w64 (by omega) (by omega), IntWalk.u64_in _ (by omega)]
  omega

theorem c_off {H : AH} {rb : Nat} {lo hi : Int} (hr : Rd H rb) (h1 : -2305843009213693952 ≤ lo) (h2 : lo ≤ 2305843009213693952) (h3 : -2305843009213693952 ≤ hi) (h4 : hi ≤ 2305843009213693952) : CallsA prog spec_l1Rd_off [.ptr rb 0, .int .i64 lo, .int .i64 hi] H fun v H' => (∃ x, v = .int .i64 x) ∧ Drew H rb H' := by
  refine spec_l1Rd_off_in fun D hD => ?_
  rw [spec_l1Rd_off_eq hD]
  refine (c_once hr).use ?_
  rintro _ H1 ⟨⟨b, rfl⟩, hd⟩
  refine asBoolI (spl (fun h => ?_) (fun h => ?_))
  · have hd1 : Drew H rb (H1 ++ [Blk.cells [V.int .i64 (IntKind.i64.wrap (lo - 1)), V.int .i64 (IntKind.i64.wrap (hi + 1)), V.int .i64 (-9223372036854775808), V.int .i64 9223372036854775807] false]) := hd.ext0 (Ext.app _ _ _)
    refine (c_below hd1.1).use ?_
    rintro _ H2 ⟨⟨x, rfl, x0, x1⟩, hd2⟩
    have hb := hd2.2.get (get_new H1 (Blk.cells [V.int .i64 (IntKind.i64.wrap (lo - 1)), V.int .i64 (IntKind.i64.wrap (hi + 1)), V.int .i64 (-9223372036854775808), V.int .i64 9223372036854775807] false)) (by have := hd.1.lt; omega)
    have hx : x.toNat = 0 ∨ x.toNat = 1 ∨ x.toNat = 2 ∨ x.toNat = 3 := by omega
    have hc : ∃ y, H2.cell H1.length (0 + x.toNat * 1) = some (V.int .i64 y) := by
      rcases hx with e | e | e | e <;> rw [e] <;> exact ⟨_, cell_of hb rfl⟩
    obtain ⟨y, hy⟩ := hc
    exact asIntI ⟨⟨by omega, by omega⟩, ldInt hy ⟨⟨_, rfl⟩, hd1.trans hd2⟩⟩
  · rw [J_spec_l1Rd_off_1_eq hD]
    refine (c_near hd.1 h1 h2 h3 h4).use ?_
    rintro _ H2 ⟨⟨x, rfl⟩, hd2⟩
    exact asIntI ⟨⟨_, rfl⟩, hd.trans hd2⟩

/-- A class that the call has made. -/
def OwnCls (n0 : Nat) (H : AH) (r : V) (c : Cls) : Prop := ∃ b n cp, r = .sl b 0 n cp ∧ Own n0 2 H b n cp (c.flatMap spanV)
theorem OwnCls.row {n0 : Nat} {H : AH} {r : V} {c : Cls} (h : OwnCls n0 H r c) : IsSpans (fun x => n0 ≤ x) H r c := by
  obtain ⟨b, n, cp, rfl, ho⟩ := h
  exact ho.row2

theorem c_drawClass {H : AH} {rb : Nat} (hr : Rd H rb) : CallsA prog spec_l1Rd_class [.ptr rb 0] H fun v H' => (∃ c, OwnCls H.length H' v c ∧ c.length ≤ 128) ∧ Drew H rb H' := by
  refine spec_l1Rd_class_in fun D hD => ?_
  rw [spec_l1Rd_class_eq hD, bV_rep]
  refine ⟨⟨by omega, by omega, by omega, by omega⟩, ?_⟩
  have hlt := hr.lt
  have hd0 : Drew H rb (H ++ [Blk.cells (bV 256 fun _ => false) false]) := (Drew.refl hr).ext0 (Ext.app _ _ _)
  refine (c_below hd0.1).use ?_
  rintro _ H1 ⟨⟨x, rfl, x0, x1⟩, hd1⟩
  refine asIntI ?_
  have hx : x ≤ 4 := by omega
  refine loopI (fun n env H' => env = [(0, .ptr rb 0), (4, .int .i64 (n : Int)), (3, .sl H.length 0 256 (.ex 256))] ∧ n ≤ 4 ∧ Drew H rb H' ∧ ∃ p, H'[H.length]? = some (.cells (bV 256 p) false)) x.toNat ⟨by rw [Int.toNat_of_nonneg x0], by omega, hd0.trans hd1, _, hd1.2.get (get_new _ _) (by omega)⟩ ?_
  rintro n _ H2 ⟨rfl, hn, hd2, p, hp⟩
  rw [L_spec_l1Rd_class_2_eq hD]
  refine splD (fun h => ?_) (fun h => ?_)
  · rw [J_spec_l1Rd_class_3_eq hD]
    refine (c_below hd2.1).use ?_
    rintro _ H3 ⟨⟨l1, rfl, l10, l11⟩, hd3⟩
    refine asIntI ((c_once hd3.1).use ?_)
    rintro _ H4 ⟨⟨t, rfl⟩, hd4⟩
    have key : ∀ (lo : Int) (H5 : AH), 0 ≤ lo → lo ≤ 256 → Drew H rb H5 → (∃ p, H5[H.length]? = some (.cells (bV 256 p) false)) →
        J_spec_l1Rd_class_5 D (fun v H' => (∃ c, OwnCls H.length H' v c ∧ c.length ≤ 128) ∧ Drew H rb H') (fun e' H' => ∃ m, m < n ∧ e' = [(0, .ptr rb 0), (4, .int .i64 (m : Int)), (3, .sl H.length 0 256 (.ex 256))] ∧ m ≤ 4 ∧ Drew H rb H' ∧ ∃ p, H'[H.length]? = some (.cells (bV 256 p) false)) [(5, .int .i64 lo), (0, .ptr rb 0), (4, .int .i64 (n : Int)), (3, .sl H.length 0 256 (.ex 256))] H5 := by
      intro lo H5 hlo0 hlo1 hd5 hp5
      rw [J_spec_l1Rd_class_5_eq hD]
      refine loopUp (σ := Unit) (256 - lo).toNat (fun k _ => [(6, .int .i64 (lo + (k : Int))), (5, .int .i64 lo), (0, .ptr rb 0), (4, .int .i64 (n : Int)), (3, .sl H.length 0 256 (.ex 256))]) (fun k _ H' => Drew H rb H' ∧ ∃ p, H'[H.length]? = some (.cells (bV 256 p) false)) () (by simp) ⟨hd5, hp5⟩ ?_
      rintro k - H6 hk ⟨hd6, p6, hp6⟩
      have done : ∀ H7, Drew H rb H7 → (∃ p, H7[H.length]? = some (.cells (bV 256 p) false)) → J_spec_l1Rd_class_4 D (fun v H' => (∃ c, OwnCls H.length H' v c ∧ c.length ≤ 128) ∧ Drew H rb H') (fun e' H' => ∃ m, m < n ∧ e' = [(0, .ptr rb 0), (4, .int .i64 (m : Int)), (3, .sl H.length 0 256 (.ex 256))] ∧ m ≤ 4 ∧ Drew H rb H' ∧ ∃ p, H'[H.length]? = some (.cells (bV 256 p) false)) [(4, .int .i64 (n : Int)), (0, .ptr rb 0), (3, .sl H.length 0 256 (.ex 256))] H7 := by
        intro H7 h7 p7
        rw [J_spec_l1Rd_class_4_eq hD, w64 (by omega) (by omega)]
        exact ⟨n - 1, by omega, by rw [show (n : Int) - 1 = ((n - 1 : Nat) : Int) by omega], by omega, h7, p7⟩
      rw [L_spec_l1Rd_class_6_eq hD]
      refine splD (fun h6 => (c_below hd6.1).use ?_) (fun h6 => ?_)
      · rintro _ H7 ⟨⟨y, rfl, y0, y1⟩, hd7⟩
        refine asIntI ?_
        rw [J_spec_l1Rd_class_8_eq hD]
        have hp7 := hd7.2.get hp6 (by omega)
        refine spl (fun _ => ?_) (fun _ => done _ (hd6.trans hd7) ⟨_, hp7⟩)
        rw [J_spec_l1Rd_class_7_eq hD]
        refine ⟨⟨by omega, by omega⟩, bst (fun t => if t = 0 + (lo + (k : Int)).toNat * 1 then true else p6 t) hp7 (by omega) (fun _ _ => rfl) ?_⟩
        rw [J_spec_l1Rd_class_9_eq hD, w64 (by omega) (by omega)]
        exact nxt () (by omega) (by rw [show lo + (k : Int) + 1 = lo + ((k + 1 : Nat) : Int) by omega]) ⟨(hd6.trans hd7).new hlt (Ext.set (X := fun x => x = H.length) _ _ _ rfl) (by omega), _, get_set _ (get_lt hp7)⟩
      · rw [J_spec_l1Rd_class_8_eq hD]
        exact splF rfl (done _ hd6 ⟨_, hp6⟩)
    have hp4 := hd4.2.get (hd3.2.get hp (by omega)) (by omega)
    refine asBoolI (spl (fun _ => (c_below hd4.1).use ?_) (fun _ => key _ _ l10 (by omega) (hd2.trans (hd3.trans hd4)) ⟨_, hp4⟩))
    rintro _ H5 ⟨⟨y, rfl, y0, y1⟩, hd5⟩
    refine asIntI (key _ _ ?_ ?_ (hd2.trans (hd3.trans (hd4.trans hd5))) ⟨_, hd5.2.get hp4 (by omega)⟩) <;> rw [w64 (by omega) (by omega)] <;> omega
  · rw [J_spec_l1Rd_class_1_eq hD]
    refine (c_l1Class (bRow (F := fun _ => True) hp trivial (by omega))).use ?_
    intro r H' hr'
    obtain ⟨b', n', c', rfl, ho, he⟩ := hr'
    exact ⟨⟨cls p, ⟨_, _, _, rfl, ho.lower hd2.2.1⟩, cls_len p 256 (Nat.le_refl _)⟩, hd2.ext0 he⟩

theorem c_oddClass {H : AH} {rb : Nat} (hr : Rd H rb) : CallsA prog spec_l1Rd_oddClass [.ptr rb 0] H fun v H' => (∃ c, OwnCls H.length H' v c ∧ c.length ≤ 129) ∧ Drew H rb H' := by
  refine spec_l1Rd_oddClass_in fun D hD => ?_
  rw [spec_l1Rd_oddClass_eq hD]
  have hlt := hr.lt
  refine (c_drawClass hr).use ?_
  rintro _ H1 ⟨⟨c, ⟨b, n, cp, rfl, ho⟩, hc⟩, hd1⟩
  have hlen : n = c.length := by have := ho.len; rw [flat_len (n := 2) (fun _ => rfl)] at this; omega
  have hl1 := hd1.2.1
  refine asSlI ((c_below hd1.1).use ?_)
  rintro _ H2 ⟨⟨x, rfl, -⟩, hd2⟩
  have ho2 := ho.keep hd2.2 (by omega)
  have hd12 := hd1.trans hd2
  have hl2 := hd12.2.1
  have fin : ∀ (b n : Nat) (cp : Cap) (c : Cls) (H' : AH), Own H.length 2 H' b n cp (c.flatMap spanV) → c.length ≤ 129 → Drew H rb H' → J_spec_l1Rd_oddClass_1 D (fun v H' => (∃ c, OwnCls H.length H' v c ∧ c.length ≤ 129) ∧ Drew H rb H') [(3, .sl b 0 n cp)] H' := by
    intro b n cp c H' ho hc hd
    rw [J_spec_l1Rd_oddClass_1_eq hD]
    exact ⟨⟨c, ⟨_, _, _, rfl, ho⟩, hc⟩, hd⟩
  refine asIntI (splE (fun h => ?_) (fun h => splE (fun h => splD (fun hn => ?_) (fun hn => fin _ _ _ c _ ho2 (by omega) hd12)) (fun h => splE (fun h => ?_) (fun h => fin _ _ _ c _ ho2 (by omega) hd12))))
  · refine (c_off hd2.1 (by omega) (by omega) (by omega) (by omega)).use ?_
    rintro _ H3 ⟨⟨y, rfl⟩, hd3⟩
    refine asIntI ((c_off hd3.1 (by omega) (by omega) (by omega) (by omega)).use ?_)
    rintro _ H4 ⟨⟨z, rfl⟩, hd4⟩
    refine asIntI (cellsNew rfl ?_)
    have hd34 := hd12.trans (hd3.trans hd4)
    have ho4 : Own H.length 2 (H4 ++ [Blk.cells [V.int .i64 y, V.int .i64 z] false]) b n cp (c.flatMap spanV) := ((ho2.keep hd3.2 (by omega)).keep hd4.2 (by omega)).keep (Ext.app (fun _ => False) _ _) (fun _ => id)
    refine ho4.push (m := 1) rfl (by omega) (by omega) (by omega) (by omega) (by have := hd34.2.1; simp; omega) fun H' hO' hl he => ?_
    refine fin _ _ _ (c ++ [(y, z)]) _ (by rw [List.flatMap_append]; exact hO') (by simp; omega) ?_
    exact (hd34.ext0 (Ext.app _ _ _)).new hlt he fun x hx => hx.1
  · refine (c_off hd2.1 (by omega) (by omega) (by omega) (by omega)).use ?_
    rintro _ H3 ⟨⟨y, rfl⟩, hd3⟩
    have ho3 := ho2.keep hd3.2 (by omega)
    refine asIntI ⟨⟨by omega, by omega⟩, ho3.store (by rw [ho3.len]; omega) fun hO' hb he => ?_⟩
    cases c with
    | nil => simp at hlen; omega
    | cons s c =>
      exact fin _ _ _ ((s.1, y) :: c) _ hO' (by simp at hc ⊢; omega) ((hd12.trans hd3).new hlt he (by omega))
  · refine fin _ _ _ [(0, 255)] _ (Own.lit (by rfl) (by omega) (by omega)) (by simp) (hd12.ext0 (Ext.app _ _ _))

theorem tdiv_nat (n : Nat) (k : Int) : ((n : Int)).tdiv k = (n : Int) / k := Int.tdiv_eq_ediv_of_nonneg (by omega)

theorem c_deep {H : AH} {rb : Nat} (hr : Rd H rb) : CallsA prog spec_l1Rd_deep [.ptr rb 0] H fun v H' => (∃ x, v = .int .i64 x ∧ 1 ≤ x ∧ x ≤ 5) ∧ Drew H rb H' := by
  have hr0 := hr
  obtain ⟨cb, ci, cn, cc, p, h1, h2, h3, h4, h5, h6⟩ := hr
  refine spec_l1Rd_deep_in fun D hD => ?_
  rw [spec_l1Rd_deep_eq hD]
  refine ldSl (cell_of (i := 0) h1 rfl) ⟨by unfold nz; omega, (c_below hr0).use ?_⟩
  rintro _ H1 ⟨⟨x, rfl, x0, x1⟩, hd⟩
  refine asIntI ⟨⟨_, rfl, ?_⟩, hd⟩
  rw [tdiv_nat, w64 (x := (cn : Int) / 5) (by omega) (by omega), w64 (x := 1 + (cn : Int) / 5) (by omega) (by omega)] at x1
  rw [w64 (by split at x1 <;> omega) (by split at x1 <;> omega)]
  split at x1 <;> omega

theorem bytes_un (s : List UInt8) : unbytes (s.map byteV) = some s := by
  induction s with
  | nil => rfl
  | cons c s ih => simp [unbytes, byteV, ih]

theorem strI {H : AH} {b i n : Nat} {s : List UInt8} {K : List UInt8 → Prop} (h : H.cellsN b i n = some (s.map byteV)) (hk : K s) : strK H b i n K := by
  unfold strK
  rw [h]
  simp only [bytes_un]
  exact hk

theorem c_text {H : AH} {rb : Nat} {most : Int} (hr : Rd H rb) (hm0 : 0 ≤ most) (hm : most ≤ 1000) : CallsA prog spec_l1Rd_text [.ptr rb 0, .int .i64 most] H fun v H' => (∃ s, v = .str s ∧ (s.length : Int) ≤ most) ∧ Drew H rb H' := by
  have hr0 := hr
  have hlt := hr.lt
  obtain ⟨cb, ci, cn, cc, p, h1, h2, h3, h4, h5, h6⟩ := hr
  refine spec_l1Rd_text_in fun D hD => ?_
  rw [spec_l1Rd_text_eq hD]
  have hd0 : Drew H rb (H ++ [Blk.cells [] false]) := (Drew.refl hr0).ext0 (Ext.app _ _ _)
  refine ldSl (cell_of (i := 0) (hd0.2.1 |> fun _ => (Ext.app (fun _ => False) H [Blk.cells [] false]).get h1 id) rfl) ⟨by unfold nz; omega, (c_below hd0.1).use ?_⟩
  rintro _ H1 ⟨⟨x, rfl, x0, x1⟩, hd1⟩
  rw [tdiv_nat, w64 (x := (cn : Int) / 3) (by omega) (by omega), w64 (x := 2 + (cn : Int) / 3) (by omega) (by omega)] at x1
  have hx : x ≤ most := by
    rw [w64 (by split <;> omega) (by split <;> omega)] at x1
    split at x1 <;> omega
  refine asIntI ?_
  have ho1 : Own H.length 1 H1 H.length 0 (.ex 0) (([] : List UInt8).map byteV) := (Own.lit (n0 := H.length) (H := H) (vs := []) (sz := 1) (n := 0) (by rfl) (Nat.le_refl _) (by omega)).keep hd1.2 (by omega)
  refine loopUp (σ := Nat × Nat × Cap × List UInt8) x.toNat (fun k s => [(5, .sl s.1 0 s.2.1 s.2.2.1), (6, .int .i64 (x - (k : Int))), (0, .ptr rb 0)]) (fun k s H' => Drew H rb H' ∧ Own H.length 1 H' s.1 s.2.1 s.2.2.1 (s.2.2.2.map byteV) ∧ s.2.2.2.length = k) (H.length, 0, .ex 0, []) (by simp) ⟨hd0.trans hd1, ho1, rfl⟩ ?_
  rintro k ⟨b, n, c, s⟩ H2 hk ⟨hd2, ho2, hsl⟩
  simp only at ho2 hsl ⊢
  have hn : n = k := by have := ho2.len; simp at this; omega
  rw [L_spec_l1Rd_text_2_eq hD]
  refine splD (fun h => ?_) (fun h => ?_)
  · rw [J_spec_l1Rd_text_3_eq hD]
    refine (c_below hd2.1).use ?_
    rintro _ H3 ⟨⟨y, rfl, y0, y1⟩, hd3⟩
    refine asIntI ⟨⟨y0, by omega⟩, cellsNew rfl ?_⟩
    have ho3 := ho2.keep hd3.2 (by omega)
    generalize byteAt [97, 97, 97, 98, 98, 98, 99, 99, 97, 98, 99, 10, 120, 121, 122, 57, 45, 122, 65, 0, 255] y = ch
    have ho4 : Own H.length 1 (H3 ++ [Blk.cells [V.int .u8 ch.toNat] false]) b n c (s.map byteV) := ho3.keep (Ext.app (fun _ => False) _ _) (fun _ => id)
    refine ho4.push (m := 1) rfl (by omega) (by omega) (by omega) (by omega) (by have := (hd2.trans hd3).2.1; simp; omega) fun H' hO' hl he => ?_
    rw [J_spec_l1Rd_text_4_eq hD, w64 (by omega) (by omega)]
    refine nxt (_, _, _, s ++ [ch]) (by omega) (by rw [show x - (k : Int) - 1 = x - ((k + 1 : Nat) : Int) by omega]) ⟨((hd2.trans hd3).ext0 (Ext.app _ _ _)).new hlt he fun x hx => hx.1, ?_, by simp; omega⟩
    rw [List.map_append]
    exact hO'
  · rw [J_spec_l1Rd_text_1_eq hD]
    have := ho2.cellsN
    rw [Nat.mul_one] at this
    exact strI this ⟨⟨s, rfl, by omega⟩, hd2⟩

end Go.Proofs.YtpjkammmoaeheaaDoor.Aw

/- Contracts: nodes; right expressions. -/
set_option linter.unusedSimpArgs false
set_option linter.unusedVariables false
set_option maxRecDepth 10000
namespace Go.Proofs.YtpjkammmoaeheaaDoor.Aw
open Go Go.RowKit

/-! ### Nodes in memory -/
def eNode (F : Nat → Prop) (H : AH) (b j : Nat) (n : Nd) : Prop := ∃ vs vk, H.cell b (j + 0) = some (.int .i64 n.op) ∧ H.cell b (j + 1) = some vs ∧ H.cell b (j + 2) = some vk ∧ H.cell b (j + 3) = some (.int .i64 n.mn) ∧ H.cell b (j + 4) = some (.int .i64 n.mx) ∧
  IsSpans F H vs n.set ∧ IsInts F H vk n.kids
theorem loc_eNode (F : Nat → Prop) : Loc F (eNode F) := fun _ _ _ _ _ ha hf ⟨vs, vk, h0, h1, h2, h3, h4, h5, h6⟩ =>
  ⟨vs, vk, ha.cell hf h0, ha.cell hf h1, ha.cell hf h2, ha.cell hf h3, ha.cell hf h4, h5.keep (loc_e2 _) ha, h6.keep (loc_e1 _ _) ha⟩
abbrev IsNodes (F : Nat → Prop) (H : AH) (v : V) (x : List Nd) : Prop := IsRow F (eNode F) 5 H v x
theorem IsNodes.keep {F X : Nat → Prop} {H H' : AH} {v : V} {x : List Nd} (h : IsNodes F H v x) (he : Ext X H H') (hx : ∀ b, F b → ¬ X b) : IsNodes F H' v x := IsRow.keep h (loc_eNode _) (he.agree hx)
theorem IsNodes.keep0 {F : Nat → Prop} {H H' : AH} {v : V} {x : List Nd} (h : IsNodes F H v x) (he : Ext0 H H') : IsNodes F H' v x := h.keep he fun _ _ => id
theorem eNode.lift {F G : Nat → Prop} {H : AH} {b j : Nat} {n : Nd} (h : eNode F H b j n) (hg : ∀ b, F b → G b) : eNode G H b j n := by
  obtain ⟨vs, vk, h0, h1, h2, h3, h4, h5, h6⟩ := h
  exact ⟨vs, vk, h0, h1, h2, h3, h4, h5.mono hg, h6.mono hg⟩
theorem IsNodes.lift {F G : Nat → Prop} {H : AH} {v : V} {x : List Nd} (h : IsNodes F H v x) (hg : ∀ b, F b → G b) : IsNodes G H v x := (IsRow.mono h hg).imp fun _ _ _ he => he.lift hg
theorem IsSpans.keep0 {F : Nat → Prop} {H H' : AH} {v : V} {x : Cls} (h : IsSpans F H v x) (he : Ext0 H H') : IsSpans F H' v x := IsRow.keep h (loc_e2 _) (he.agree fun _ _ => id)
theorem IsInts.keep0 {F : Nat → Prop} {H H' : AH} {v : V} {x : List Int} (h : IsInts F H v x) (he : Ext0 H H') : IsInts F H' v x := IsRow.keep h (loc_e1 _ _) (he.agree fun _ _ => id)
theorem IsBools.keep0 {F : Nat → Prop} {H H' : AH} {v : V} {x : List Bool} (h : IsBools F H v x) (he : Ext0 H H') : IsBools F H' v x := IsRow.keep h (loc_e1 _ _) (he.agree fun _ _ => id)

/-- A node's five cells. -/
def IsNode (F : Nat → Prop) (H : AH) (cs : List V) (n : Nd) : Prop := ∃ sb si sc kb ki kc, cs = [.int .i64 n.op, .sl sb si n.set.length sc, .sl kb ki n.kids.length kc, .int .i64 n.mn, .int .i64 n.mx] ∧
  IsSpans F H (.sl sb si n.set.length sc) n.set ∧ IsInts F H (.sl kb ki n.kids.length kc) n.kids
theorem IsNode.keep0 {F : Nat → Prop} {H H' : AH} {cs : List V} {n : Nd} (h : IsNode F H cs n) (he : Ext0 H H') : IsNode F H' cs n := by
  obtain ⟨sb, si, sc, kb, ki, kc, rfl, h1, h2⟩ := h
  exact ⟨sb, si, sc, kb, ki, kc, rfl, h1.keep0 he, h2.keep0 he⟩
/-- A node of a slice is read whole. -/
theorem eNode.read {F : Nat → Prop} {H : AH} {b j : Nat} {n : Nd} (h : eNode F H b j n) : ∃ sb si sc kb ki kc, H.cell b (j + 0) = some (.int .i64 n.op) ∧ H.cell b (j + 1) = some (.sl sb si n.set.length sc) ∧ H.cell b (j + 2) = some (.sl kb ki n.kids.length kc) ∧ H.cell b (j + 3) = some (.int .i64 n.mn) ∧ H.cell b (j + 4) = some (.int .i64 n.mx) ∧
    IsSpans F H (.sl sb si n.set.length sc) n.set ∧ IsInts F H (.sl kb ki n.kids.length kc) n.kids := by
  obtain ⟨vs, vk, h0, h1, h2, h3, h4, h5, h6⟩ := h
  have h5' := h5; have h6' := h6
  obtain ⟨sb, si, sc, rfl, -⟩ := h5
  obtain ⟨kb, ki, kc, rfl, -⟩ := h6
  exact ⟨sb, si, sc, kb, ki, kc, h0, h1, h2, h3, h4, h5', h6'⟩

theorem c_l3Kids (op : Int) (H : AH) : CallsA prog spec_l3Kids [.int .i64 op] H fun v H' => v = .int .i64 (kidsN op) ∧ H' = H := by
  refine spec_l3Kids_in fun D hD => ?_
  rw [spec_l3Kids_eq hD]
  refine splE (fun h => ?_) (fun h => ?_) <;> rw [J_spec_l3Kids_2_eq hD]
  · refine splT (by simpa using h) ⟨?_, rfl⟩
    unfold kidsN; rw [if_pos (.inl h)]; rfl
  · refine splE (fun h4 => ⟨?_, rfl⟩) (fun h4 => ?_)
    · unfold kidsN; rw [if_pos (.inr h4)]; rfl
    have e2 : (op = 5 ∨ op = 6 ∨ op = 7 ∨ op = 8) → V.int .i64 1 = V.int .i64 (kidsN op) := fun h => by
      unfold kidsN; rw [if_neg (by omega), if_pos (by omega)]; rfl
    have fin : ∀ b : Bool, (b = true → op = 5 ∨ op = 6 ∨ op = 7 ∨ op = 8) → (b = false → ¬ (op = 5 ∨ op = 6 ∨ op = 7 ∨ op = 8)) → J_spec_l3Kids_3 D (fun v H' => v = .int .i64 (kidsN op) ∧ H' = H) [(7, .bool b)] H := by
      intro b h1 h2
      rw [J_spec_l3Kids_3_eq hD]
      refine spl (fun hb => ⟨e2 (h1 hb), rfl⟩) (fun hb => ?_)
      rw [J_spec_l3Kids_1_eq hD]
      refine ⟨?_, rfl⟩
      have := h2 hb
      unfold kidsN; rw [if_neg (by omega), if_neg (by omega)]; rfl
    refine splE (fun h => fin _ (fun _ => by omega) (fun hb => by simp at hb; omega)) (fun h5 => splE (fun h => fin _ (fun _ => by omega) (fun hb => by simp at hb; omega)) (fun h6 => splE (fun h => fin _ (fun _ => by omega) (fun hb => by simp at hb; omega)) (fun h7 => fin _ (fun hb => by simp at hb; omega) (fun hb => by simp at hb; omega))))

theorem c_kidsOf (op : Int) (H : AH) : CallsA prog impl_kidsOf [.int .i64 op] H fun v H' => v = .int .i64 (if 1 ≤ op ∧ op ≤ 8 then (kidsN op : Int) else -1) ∧ H' = H := by
  refine impl_kidsOf_in fun D hD => ?_
  rw [impl_kidsOf_eq hD]
  have val : ∀ z : Int, z = (if 1 ≤ op ∧ op ≤ 8 then (kidsN op : Int) else -1) → V.int .i64 z = .int .i64 (if 1 ≤ op ∧ op ≤ 8 then (kidsN op : Int) else -1) := fun z h => by rw [h]
  have k3 : ∀ b : Bool, (b = true ↔ op = 3 ∨ op = 4) → ¬ (op = 1 ∨ op = 2) → J_impl_kidsOf_3 D (fun v H' => v = .int .i64 (if 1 ≤ op ∧ op ≤ 8 then (kidsN op : Int) else -1) ∧ H' = H) [(7, .bool b), (3, .int .i64 op)] H := by
    intro b hb h12
    rw [J_impl_kidsOf_3_eq hD]
    refine spl (fun h => ⟨val _ ?_, rfl⟩) (fun h => ?_)
    · have := hb.1 h
      rw [if_pos (by omega)]; unfold kidsN; rw [if_pos this]; rfl
    have hn : ¬ (op = 3 ∨ op = 4) := fun hh => by have := hb.2 hh; rw [h] at this; cases this
    have fin : ∀ b : Bool, (b = true ↔ op = 5 ∨ op = 6 ∨ op = 7 ∨ op = 8) → J_impl_kidsOf_4 D (fun v H' => v = .int .i64 (if 1 ≤ op ∧ op ≤ 8 then (kidsN op : Int) else -1) ∧ H' = H) [(10, .bool b)] H := by
      intro b hb
      rw [J_impl_kidsOf_4_eq hD]
      refine spl (fun h => ⟨val _ ?_, rfl⟩) (fun h => ?_)
      · have := hb.1 h
        rw [if_pos (by omega)]; unfold kidsN; rw [if_neg hn, if_pos (by omega)]; rfl
      · have hn2 : ¬ (op = 5 ∨ op = 6 ∨ op = 7 ∨ op = 8) := fun hh => by have := hb.2 hh; rw [h] at this; cases this
        rw [J_impl_kidsOf_1_eq hD]
        refine ⟨val _ ?_, rfl⟩
        rw [if_neg (by omega)]
    refine splE (fun h => fin _ (by simp [h])) (fun h5 => splE (fun h => fin _ (by simp [h])) (fun h6 => splE (fun h => fin _ (by simp [h])) (fun h7 => fin _ (by simp [h5, h6, h7]))))
  have k2 : ∀ b : Bool, (b = true ↔ op = 1 ∨ op = 2) → J_impl_kidsOf_2 D (fun v H' => v = .int .i64 (if 1 ≤ op ∧ op ≤ 8 then (kidsN op : Int) else -1) ∧ H' = H) [(4, .bool b), (3, .int .i64 op)] H := by
    intro b hb
    rw [J_impl_kidsOf_2_eq hD]
    refine spl (fun h => ⟨val _ ?_, rfl⟩) (fun h => ?_)
    · have := hb.1 h
      rw [if_pos (by omega)]; unfold kidsN; rw [if_neg (by omega), if_neg (by omega)]; rfl
    have hn : ¬ (op = 1 ∨ op = 2) := fun hh => by have := hb.2 hh; rw [h] at this; cases this
    refine splE (fun h => k3 _ (by simp [h]) hn) (fun h3 => k3 _ (by simp [h3]) hn)
  refine splE (fun h => k2 _ (by simp [h])) (fun h1 => k2 _ (by simp [h1]))

theorem c_timesOk (lo hi : Int) (H : AH) : CallsA prog impl_timesOk [.int .i64 lo, .int .i64 hi] H fun v H' => v = .bool (decide (0 ≤ lo ∧ lo ≤ 30 ∧ (hi = -1 ∨ lo ≤ hi ∧ 1 ≤ hi ∧ hi ≤ 30))) ∧ H' = H := by
  refine impl_timesOk_in fun D hD => ?_
  rw [impl_timesOk_eq hD]
  refine (c_within _ _ _ _).use ?_
  rintro _ H ⟨rfl, rfl⟩
  have fin : ∀ b : Bool, (b = true ↔ (0 ≤ lo ∧ lo ≤ 30 ∧ (hi = -1 ∨ lo ≤ hi ∧ 1 ≤ hi ∧ hi ≤ 30))) → J_impl_timesOk_1 D (fun v H' => v = .bool (decide (0 ≤ lo ∧ lo ≤ 30 ∧ (hi = -1 ∨ lo ≤ hi ∧ 1 ≤ hi ∧ hi ≤ 30))) ∧ H' = H) [(4, .bool b)] H := by
    intro b hb
    rw [J_impl_timesOk_1_eq hD]
    refine ⟨?_, rfl⟩
    congr 1
    rw [Bool.eq_iff_iff, hb, decide_eq_true_iff]
  refine asBoolI (splD (fun h => splE (fun h1 => fin _ (by simp; omega)) (fun h1 => (c_within _ _ _ _).use ?_)) (fun h => fin _ (by simp; omega)))
  rintro _ H ⟨rfl, rfl⟩
  refine asBoolI (splD (fun h2 => fin _ ?_) (fun h2 => fin _ (by simp; omega)))
  simp; omega

end Go.Proofs.YtpjkammmoaeheaaDoor.Aw

/- Contracts: whether a node is right. -/
set_option linter.unusedSimpArgs false
set_option linter.unusedVariables false
set_option maxRecDepth 10000
namespace Go.Proofs.YtpjkammmoaeheaaDoor.Aw
open Go Go.RowKit

theorem c_l3Node {F : Nat → Prop} {H : AH} {cs : List V} {n : Nd} {place : Nat} (hn : IsNode F H cs n) (hp : place ≤ 1000000) : CallsA prog spec_l3Node [.agg cs, .int .i64 place] H fun r H' => TellsB r (NodeOk n place) ∧ Ext0 H H' := by
  obtain ⟨sb, si, sc, kb, ki, kc, rfl, hs, hk⟩ := hn
  refine spec_l3Node_in fun D hD => ?_
  rw [spec_l3Node_eq hD]
  generalize hG : H ++ [Blk.cells [V.int .i64 n.op, .sl sb si n.set.length sc, .sl kb ki n.kids.length kc, .int .i64 n.mn, .int .i64 n.mx] false] = G
  have hE : Ext0 H G := by rw [← hG]; exact Ext.app _ _ _
  have hB : G[H.length]? = some (.cells [V.int .i64 n.op, .sl sb si n.set.length sc, .sl kb ki n.kids.length kc, .int .i64 n.mn, .int .i64 n.mx] false) := by rw [← hG]; exact get_new _ _
  have hs := hs.keep0 hE
  have hk := hk.keep0 hE
  have g0 : G.cell H.length 0 = _ := cell_of (i := 0) hB rfl
  have g1 : G.cell H.length 1 = _ := cell_of (i := 1) hB rfl
  have g2 : G.cell H.length 2 = _ := cell_of (i := 2) hB rfl
  have g3 : G.cell H.length 3 = _ := cell_of (i := 3) hB rfl
  have g4 : G.cell H.length 4 = _ := cell_of (i := 4) hB rfl
  have no : ¬ NodeOk n place → TellsB (.bool false) (NodeOk n place) ∧ Ext0 H G := fun h => ⟨⟨false, rfl, by simp [h]⟩, hE⟩
  have J2 : ∀ b : Bool, (b = true → ¬ NodeOk n place) → (b = false → 1 ≤ n.op ∧ n.op ≤ 8 ∧ n.kids.length = kidsN n.op) → J_spec_l3Node_2 D (fun r H' => TellsB r (NodeOk n place) ∧ Ext0 H H') [(18, .bool b), (1, .int .i64 place), (2, .ptr H.length 0)] G := by
    intro b b1 b2
    rw [J_spec_l3Node_2_eq hD]
    refine spl (fun h => no (b1 h)) (fun h => ?_)
    obtain ⟨o1, o8, ol⟩ := b2 h
    rw [J_spec_l3Node_1_eq hD]
    refine loopUp (σ := Unit) n.kids.length (fun k _ => [(2, .ptr H.length 0), (1, .int .i64 place), (5, .int .i64 k)]) (fun k _ H' => H' = G ∧ ∀ j x, j < k → n.kids[j]? = some x → 0 ≤ x ∧ x < (place : Int)) () rfl ⟨rfl, fun j x hj => by omega⟩ ?_
    rintro k - G hkl ⟨rfl, hI⟩
    obtain ⟨b', i', c', e', hkl2, -, hkr⟩ := hk
    cases e'
    rw [L_spec_l3Node_4_eq hD]
    refine ldSl g2 (splD (fun h => ?_) (fun h => ?_))
    · obtain ⟨x, hx⟩ : ∃ x, n.kids[k]? = some x := ⟨_, List.getElem?_eq_getElem (by omega)⟩
      rw [J_spec_l3Node_5_eq hD, tn]
      refine ldSl g2 ⟨⟨by omega, by omega⟩, ldInt (hkr k x hx) ((c_l1In _ _ _ _).use ?_)⟩
      rintro _ G ⟨rfl, rfl⟩
      rw [w64 (by omega) (by omega)]
      refine splND (fun h => no fun hh => h ?_) (fun h => ?_)
      · have := hh.kid x (List.mem_of_getElem? hx); omega
      · rw [J_spec_l3Node_6_eq hD, inc (by omega)]
        refine nxt () (by omega) rfl ⟨rfl, fun j y hj hy => ?_⟩
        by_cases e : j = k
        · subst e; rw [hx] at hy; cases hy; omega
        · exact hI j y (by omega) hy
    · have okid : ∀ x ∈ n.kids, 0 ≤ x ∧ x < (place : Int) := by
        intro x hx
        obtain ⟨j, hj⟩ := List.mem_iff_getElem?.1 hx
        exact hI j x (by have := (List.getElem?_eq_some_iff.1 hj).1; omega) hj
      have J8 : ∀ b : Bool, (b = true → ¬ NodeOk n place) → (b = false → (n.op = 2 → COk n.set ∧ n.set ≠ []) ∧ (n.op ≠ 2 → n.set = [])) → J_spec_l3Node_8 D (fun r H' => TellsB r (NodeOk n place) ∧ Ext0 H H') [(60, .bool b), (2, .ptr H.length 0)] G := by
        intro b b1 b2
        rw [J_spec_l3Node_8_eq hD]
        refine spl (fun h => no (b1 h)) (fun h => ?_)
        obtain ⟨os, on⟩ := b2 h
        rw [J_spec_l3Node_7_eq hD]
        refine ldInt g0 (splN (fun h8 => ldInt g3 (splE (fun h0 => ldInt g4 ?_) (fun h0 => ?_))) (fun h8 => ?_))
        · rw [J_spec_l3Node_10_eq hD]
          refine ⟨⟨_, rfl, ?_⟩, hE⟩
          simp only [beq_iff_eq]
          exact ⟨fun h => ⟨o1, o8, ol, okid, os, on, fun h => absurd h h8, fun _ => ⟨h0, h⟩⟩, fun h => (h.notimes h8).2⟩
        · rw [J_spec_l3Node_10_eq hD]
          exact no fun h => h0 (h.notimes h8).1
        · rw [J_spec_l3Node_9_eq hD]
          refine ldInt g3 ((c_l1In _ _ _ _).use ?_)
          rintro _ G ⟨rfl, rfl⟩
          have fin : ∀ b : Bool, (b = true ↔ 0 ≤ n.mn ∧ n.mn ≤ 30 ∧ (n.mx = -1 ∨ n.mn ≤ n.mx ∧ 1 ≤ n.mx ∧ n.mx ≤ 30)) → J_spec_l3Node_11 D (fun r H' => TellsB r (NodeOk n place) ∧ Ext0 H H') [(4, .bool b)] G := by
            intro b hb
            rw [J_spec_l3Node_11_eq hD]
            refine ⟨⟨b, rfl, hb.trans ⟨fun h => ⟨o1, o8, ol, okid, os, on, fun _ => h, fun h => absurd h8 h⟩, fun h => h.times h8⟩⟩, hE⟩
          refine asBoolI (splD (fun h => ldInt g4 (splE (fun h1 => fin _ (by simp; omega)) (fun h1 => ldInt g4 (ldInt g3 ((c_l1In _ _ _ _).use ?_))))) (fun h => fin _ (by simp; omega)))
          rintro _ G ⟨rfl, rfl⟩
          refine asBoolI (fin _ ?_)
          rw [decide_eq_true_iff]
          split <;> omega
      have hlen0 : n.set.length = 0 ↔ n.set = [] := List.length_eq_zero_iff
      rw [J_spec_l3Node_3_eq hD]
      refine ldInt g0 (splE (fun h2 => ldSl g1 ((c_specClassOk hs).use ?_)) (fun h2 => ldInt g0 (splN (fun _ => ldSl g1 (J8 _ (fun h => ?_) (fun h => ?_))) (fun h => absurd h h2))))
      · rintro _ G ⟨⟨t, rfl, ht⟩, rfl⟩
        refine asBoolI (splNot (fun h => J8 true (fun _ hh => ?_) (fun h => by cases h)) (fun h => ldSl g1 (splE (fun h0 => J8 true (fun _ hh => ?_) (fun h => by cases h)) (fun h0 => ldInt g0 (splN (fun h => absurd h2 h) (fun _ => J8 false (fun h => by cases h) (fun _ => ⟨fun _ => ⟨ht.1 h, fun he => h0 (by rw [he]; rfl)⟩, fun h => absurd h2 h⟩)))))))
        · have := ht.2 (hh.set h2).1; rw [h] at this; cases this
        · exact (hh.set h2).2 (hlen0.1 (by omega))
      · intro hh
        have h3 := hh.noset h2
        rw [h3] at h; simp at h
      · have := of_decide_eq_false h
        exact ⟨fun h => absurd h h2, fun _ => hlen0.1 (by omega)⟩
  refine ldInt g0 ((c_l1In _ _ _ _).use ?_)
  rintro _ G ⟨rfl, rfl⟩
  refine asBoolI (splND (fun h => J2 true (fun _ hh => h ⟨hh.op1, hh.op8⟩) (fun h => by cases h)) (fun h => ldSl g2 (ldInt g0 ((c_l3Kids _ _).use ?_))))
  rintro _ G ⟨rfl, rfl⟩
  refine asIntI ⟨g2, J2 _ (fun h hh => ?_) (fun h => ?_)⟩
  · have := hh.len; simp at h; omega
  · simp at h; exact ⟨by omega, by omega, by omega⟩

/-! ### The program's -/
theorem c_nodeOk1 {H : AH} {kid place : Int} {b : Nat} (hb : H.cell b 0 = some (.int .i64 place)) (h1 : 0 ≤ place) (h2 : place ≤ 1000000) : CallsA prog impl_nodeOk_1 [.int .i64 kid, .ptr b 0] H fun v H' => v = .bool (!decide (0 ≤ kid ∧ kid < place)) ∧ H' = H := by
  refine impl_nodeOk_1_in fun D hD => ?_
  rw [impl_nodeOk_1_eq hD]
  refine ldInt hb ((c_within _ _ _ _).use ?_)
  rintro _ H ⟨rfl, rfl⟩
  rw [w64 (by omega) (by omega)]
  refine asBoolI ⟨?_, rfl⟩
  congr 2
  exact decide_eq_decide.2 (by omega)

theorem c_IndexFunc {F : Nat → Prop} {H : AH} {v : V} {l : List Int} {f : Nat} {fa fc : List V} {q : Int → Bool} (hl : IsInts F H v l)
    (hf : ∀ x, CallsA prog f (fa ++ [.int .i64 x] ++ fc) H fun r H' => r = .bool (q x) ∧ H' = H) :
    CallsA prog slices_IndexFunc_int64_int64 [v, .fn f fa fc] H fun r H' => (∃ i, r = .int .i64 i ∧ (i < 0 ∨ 0 ≤ i) ∧ (0 ≤ i ↔ ∃ x ∈ l, q x = true)) ∧ H' = H := by
  obtain ⟨b, i, c, rfl, hlen, -, hl⟩ := hl
  refine slices_IndexFunc_int64_int64_in fun D hD => ?_
  rw [slices_IndexFunc_int64_int64_eq hD]
  refine loopUp (σ := Unit) l.length (fun k _ => [(7, .int .i64 l.length), (1, .fn f fa fc), (0, .sl b i l.length c), (8, .int .i64 k)]) (fun k _ H' => H' = H ∧ ∀ x ∈ l.take k, q x = false) () rfl ⟨rfl, by simp⟩ ?_
  rintro k - H hk ⟨rfl, hI⟩
  rw [L_slices_IndexFunc_int64_int64_2_eq hD]
  refine splD (fun h => ?_) (fun h => ?_)
  · have hkl : k < l.length := by omega
    obtain ⟨x, hx⟩ : ∃ x, l[k]? = some x := ⟨_, List.getElem?_eq_getElem hkl⟩
    rw [J_slices_IndexFunc_int64_int64_3_eq hD, tn]
    refine ⟨⟨by omega, by omega⟩, ldInt (hl k x hx) ((hf x).use ?_)⟩
    rintro _ H ⟨rfl, rfl⟩
    refine asBoolI (spl (fun hq => ⟨⟨_, rfl, by omega, fun _ => ⟨x, List.mem_of_getElem? hx, hq⟩, fun _ => by omega⟩, rfl⟩) (fun hq => ?_))
    rw [J_slices_IndexFunc_int64_int64_4_eq hD, inc (by omega)]
    refine nxt () hkl rfl ⟨rfl, fun y hy => ?_⟩
    rw [List.take_add_one, hx] at hy
    rcases List.mem_append.1 hy with hy | hy
    · exact hI y hy
    · simp at hy; subst hy; exact hq
  · rw [J_slices_IndexFunc_int64_int64_1_eq hD]
    refine ⟨⟨-1, rfl, by omega, fun h => by omega, ?_⟩, rfl⟩
    rintro ⟨x, hx, hq⟩
    have := hI x (by rw [show k = l.length by omega, List.take_length]; exact hx)
    rw [this] at hq; cases hq

theorem c_ContainsFunc {F : Nat → Prop} {H : AH} {v : V} {l : List Int} {f : Nat} {fa fc : List V} {q : Int → Bool} (hl : IsInts F H v l)
    (hf : ∀ x, CallsA prog f (fa ++ [.int .i64 x] ++ fc) H fun r H' => r = .bool (q x) ∧ H' = H) :
    CallsA prog slices_ContainsFunc_int64_int64 [v, .fn f fa fc] H fun r H' => TellsB r (∃ x ∈ l, q x = true) ∧ H' = H := by
  have hl0 := hl
  obtain ⟨b, i, c, rfl, -⟩ := hl
  refine slices_ContainsFunc_int64_int64_in fun D hD => ?_
  rw [slices_ContainsFunc_int64_int64_eq hD]
  refine (c_IndexFunc hl0 hf).use ?_
  rintro _ H ⟨⟨i, rfl, -, hi⟩, rfl⟩
  exact asIntI ⟨⟨_, rfl, by rw [decide_eq_true_iff]; exact hi⟩, rfl⟩

theorem c_nodeOk {F : Nat → Prop} {H : AH} {cs : List V} {n : Nd} {place : Nat} (hn : IsNode F H cs n) (hp : place ≤ 1000000) : CallsA prog impl_nodeOk [.agg cs, .int .i64 place] H fun r H' => TellsB r (NodeOk n place) ∧ Ext0 H H' := by
  obtain ⟨sb, si, sc, kb, ki, kc, rfl, hs, hk⟩ := hn
  refine impl_nodeOk_in fun D hD => ?_
  rw [impl_nodeOk_eq hD]
  have hl1 : (H ++ [Blk.cells [V.int .i64 n.op, .sl sb si n.set.length sc, .sl kb ki n.kids.length kc, .int .i64 n.mn, .int .i64 n.mx] false]).length = H.length + 1 := by simp
  rw [hl1]
  generalize hG : H ++ [Blk.cells [V.int .i64 n.op, .sl sb si n.set.length sc, .sl kb ki n.kids.length kc, .int .i64 n.mn, .int .i64 n.mx] false] ++ [Blk.cells [V.int .i64 place] false] = G
  have hE : Ext0 H G := by rw [← hG]; exact (Ext.app _ _ _).trans (Ext.app _ _ _)
  have hB : G[H.length]? = some (.cells [V.int .i64 n.op, .sl sb si n.set.length sc, .sl kb ki n.kids.length kc, .int .i64 n.mn, .int .i64 n.mx] false) := by rw [← hG, List.getElem?_append_left (by simp)]; exact get_new _ _
  have hP : G[H.length + 1]? = some (.cells [V.int .i64 place] false) := by rw [← hG, ← hl1]; exact get_new _ _
  have hs := hs.keep0 hE
  have hk := hk.keep0 hE
  have g0 : G.cell H.length 0 = _ := cell_of (i := 0) hB rfl
  have g1 : G.cell H.length 1 = _ := cell_of (i := 1) hB rfl
  have g2 : G.cell H.length 2 = _ := cell_of (i := 2) hB rfl
  have g3 : G.cell H.length 3 = _ := cell_of (i := 3) hB rfl
  have g4 : G.cell H.length 4 = _ := cell_of (i := 4) hB rfl
  have no : ∀ {G}, Ext0 H G → ¬ NodeOk n place → TellsB (.bool false) (NodeOk n place) ∧ Ext0 H G := fun hE h => ⟨⟨false, rfl, by simp [h]⟩, hE⟩
  have J2 : ∀ b : Bool, (b = true → ¬ NodeOk n place) → (b = false → 1 ≤ n.op ∧ n.op ≤ 8 ∧ n.kids.length = kidsN n.op ∧ ∀ x ∈ n.kids, 0 ≤ x ∧ x < (place : Int)) → J_impl_nodeOk_2 D (fun r H' => TellsB r (NodeOk n place) ∧ Ext0 H H') [(17, .bool b), (2, .ptr H.length 0)] G := by
    intro b b1 b2
    rw [J_impl_nodeOk_2_eq hD]
    refine spl (fun h => no hE (b1 h)) (fun h => ?_)
    obtain ⟨o1, o8, ol, okid⟩ := b2 h
    have J4 : ∀ (b : Bool) (G' : AH), Ext0 G G' → (b = true → ¬ NodeOk n place) → (b = false → (n.op = 2 → COk n.set ∧ n.set ≠ []) ∧ (n.op ≠ 2 → n.set = [])) → J_impl_nodeOk_4 D (fun r H' => TellsB r (NodeOk n place) ∧ Ext0 H H') [(43, .bool b), (2, .ptr H.length 0)] G' := by
      intro b G' hE' b1 b2
      have hEE := hE.trans hE'
      rw [J_impl_nodeOk_4_eq hD]
      refine spl (fun h => no hEE (b1 h)) (fun h => ?_)
      obtain ⟨os, on⟩ := b2 h
      rw [J_impl_nodeOk_3_eq hD]
      refine ldInt (hE'.cell g0 id) (splE (fun h8 => ldInt (hE'.cell g3 id) (ldInt (hE'.cell g4 id) ((c_timesOk _ _ _).use ?_))) (fun h8 => ?_))
      · rintro _ G' ⟨rfl, rfl⟩
        refine asBoolI ⟨⟨_, rfl, ?_⟩, hEE⟩
        rw [decide_eq_true_iff]
        exact ⟨fun h => ⟨o1, o8, ol, okid, os, on, fun _ => h, fun h => absurd h8 h⟩, fun h => h.times h8⟩
      · rw [J_impl_nodeOk_5_eq hD]
        refine ldInt (hE'.cell g3 id) (splE (fun h0 => ldInt (hE'.cell g4 id) ?_) (fun h0 => ?_)) <;> rw [J_impl_nodeOk_6_eq hD]
        · refine ⟨⟨_, rfl, ?_⟩, hEE⟩
          simp only [beq_iff_eq]
          exact ⟨fun h => ⟨o1, o8, ol, okid, os, on, fun h => absurd h h8, fun _ => ⟨h0, h⟩⟩, fun h => (h.notimes h8).2⟩
        · exact no hEE fun h => h0 (h.notimes h8).1
    have hlen0 : n.set.length = 0 ↔ n.set = [] := List.length_eq_zero_iff
    rw [J_impl_nodeOk_1_eq hD]
    refine ldInt g0 (splE (fun h2 => ldSl g1 ((c_implClassOk hs).use ?_)) (fun h2 => ldInt g0 (splN (fun _ => ldSl g1 (J4 _ G (Ext.refl _ _) (fun h => ?_) (fun h => ?_))) (fun h => absurd h h2))))
    · rintro _ G' ⟨⟨t, rfl, ht⟩, hE'⟩
      refine asBoolI (splNot (fun h => J4 true _ hE' (fun _ hh => ?_) (fun h => by cases h)) (fun h => ldSl (hE'.cell g1 id) (splE (fun h0 => J4 true _ hE' (fun _ hh => ?_) (fun h => by cases h)) (fun h0 => ldInt (hE'.cell g0 id) (splN (fun h => absurd h2 h) (fun _ => J4 false _ hE' (fun h => by cases h) (fun _ => ⟨fun _ => ⟨ht.1 h, fun he => h0 (by rw [he]; rfl)⟩, fun h => absurd h2 h⟩)))))))
      · have := ht.2 (hh.set h2).1; rw [h] at this; cases this
      · exact (hh.set h2).2 (hlen0.1 (by omega))
    · intro hh
      have h3 := hh.noset h2
      rw [h3] at h; simp at h
    · have := of_decide_eq_false h
      exact ⟨fun h => absurd h h2, fun _ => hlen0.1 (by omega)⟩
  refine ldSl g2 (ldInt g0 ((c_kidsOf _ _).use ?_))
  rintro _ G ⟨rfl, rfl⟩
  refine asIntI ⟨g2, splN (fun h => J2 true (fun _ hh => ?_) (fun h => by cases h)) (fun h => ldSl g2 ?_)⟩
  · rw [if_pos ⟨hh.op1, hh.op8⟩, hh.len] at h; exact h rfl
  · have hop : 1 ≤ n.op ∧ n.op ≤ 8 := by
      rcases Classical.em (1 ≤ n.op ∧ n.op ≤ 8) with h1 | h1
      · exact h1
      · rw [if_neg h1] at h; omega
    rw [if_pos hop] at h
    refine (c_ContainsFunc (q := fun x => !decide (0 ≤ x ∧ x < (place : Int))) hk fun x => c_nodeOk1 (cell_of (i := 0) hP rfl) (by omega) (by omega)).use ?_
    rintro _ G ⟨⟨t, rfl, ht⟩, rfl⟩
    refine asBoolI (J2 t (fun h hh => ?_) (fun h => ⟨hop.1, hop.2, by omega, fun x hx => ?_⟩))
    · obtain ⟨x, hx, hq⟩ := ht.1 h
      have := hh.kid x hx
      simp at hq; omega
    · rcases Classical.em (0 ≤ x ∧ x < (place : Int)) with h1 | h1
      · exact h1
      · have := ht.2 ⟨x, hx, by rw [decide_eq_false h1]; rfl⟩
        rw [h] at this; cases this

end Go.Proofs.YtpjkammmoaeheaaDoor.Aw

/- Contracts: whether an expression is right. -/
set_option linter.unusedSimpArgs false
set_option linter.unusedVariables false
set_option maxRecDepth 10000
namespace Go.Proofs.YtpjkammmoaeheaaDoor.Aw
open Go Go.RowKit

/-! ### Numbers in a block -/
abbrev nV (n : Nat) (f : Nat → Nat) : List V := gl n fun j => V.int .i64 (f j : Int)
theorem nV_rep (n : Nat) : rep n [V.int .i64 0] = nV n fun _ => 0 := by
  unfold rep
  rw [show (List.replicate n [V.int .i64 0]).flatten = List.replicate n (V.int .i64 0) by simp, gl_rep]
  rfl
theorem ncell {H : AH} {B n : Nat} {f : Nat → Nat} {ro : Bool} (h : H[B]? = some (.cells (nV n f) ro)) {j : Nat} (hj : j < n) : H.cell B j = some (.int .i64 (f j : Int)) := cell_of h (gl_get hj)
theorem nst {H : AH} {B n j : Nat} {f : Nat → Nat} (q : Nat → Nat) {z : Int} {K : AH → Prop} (h : H[B]? = some (.cells (nV n f) false)) (hj : j < n) (hz : z = (q j : Int)) (hq : ∀ k, k < n → k ≠ j → q k = f k) (hk : K (H.set B (.cells (nV n q) false))) : stK H B j [V.int .i64 z] K := by
  subst hz
  refine stI h (by rw [gl_len]; exact hj) ?_
  rw [gl_set (fun t => V.int .i64 (q t : Int)) (fun t ht => ?_)]
  · exact hk
  · by_cases e : t = j
    · subst e; rw [if_pos rfl]
    · rw [if_neg e, hq t ht e]
theorem mkOk_n {n : Nat} (hn : n ≤ 300) : mkOk (n : Int) (n : Int) 8 := ⟨by omega, by omega, by omega, by omega⟩

/-- A node of a slice in memory, at a place. -/
theorem IsNodes.at {F : Nat → Prop} {H : AH} {b i n : Nat} {c : Cap} {x : List Nd} (h : IsNodes F H (.sl b i n c) x) {k : Nat} {nd : Nd} (hx : x[k]? = some nd) : eNode F H b (i + k * 5) nd := by
  obtain ⟨b', i', c', e, -, -, h⟩ := h
  cases e
  exact h k nd hx
theorem IsNodes.len {F : Nat → Prop} {H : AH} {b i n : Nat} {c : Cap} {x : List Nd} (h : IsNodes F H (.sl b i n c) x) : n = x.length := by
  obtain ⟨b', i', c', e, -, -, h⟩ := h
  cases e; rfl
theorem IsInts.at {F : Nat → Prop} {H : AH} {b i n : Nat} {c : Cap} {l : List Int} (h : IsInts F H (.sl b i n c) l) {k : Nat} {z : Int} (hx : l[k]? = some z) : H.cell b (i + k * 1) = some (.int .i64 z) := by
  obtain ⟨b', i', c', e, -, -, h⟩ := h
  cases e
  exact h k z hx

theorem okAll {x : List Nd} (hI : ∀ i n, i < x.length → x[i]? = some n → NodeOk n i) : ∀ i n, x[i]? = some n → NodeOk n i := fun i n h => hI i n (List.getElem?_eq_some_iff.1 h).1 h

theorem c_specRxOk {F : Nat → Prop} {H : AH} {v : V} {x : List Nd} (hx : IsNodes F H v x) : CallsA prog spec_RxOk [.agg [v]] H fun r H' => TellsB r (RxOk x) ∧ Ext0 H H' := by
  have hx0 := hx
  obtain ⟨xb, xi, xc, rfl, -⟩ := hx
  refine spec_RxOk_in fun D hD => ?_
  rw [spec_RxOk_eq hD]
  generalize hG : H ++ [Blk.cells [V.sl xb xi x.length xc] false] = G
  have hE : Ext0 H G := by rw [← hG]; exact Ext.app _ _ _
  have hB : G[H.length]? = some (.cells [V.sl xb xi x.length xc] false) := by rw [← hG]; exact get_new _ _
  have hlG : G.length = H.length + 1 := by rw [← hG]; simp
  have hx0 := hx0.keep0 hE
  have no : ∀ {G}, Ext0 H G → ¬ RxOk x → TellsB (.bool false) (RxOk x) ∧ Ext0 H G := fun hE h => ⟨⟨false, rfl, by simp [h]⟩, hE⟩
  have J2 : ∀ b : Bool, (b = true → ¬ RxOk x) → (b = false → 1 ≤ x.length ∧ x.length ≤ 300) → J_spec_RxOk_2 D (fun r H' => TellsB r (RxOk x) ∧ Ext0 H H') [(18, .bool b), (3, .int .i64 x.length), (1, .ptr H.length 0)] G := by
    intro b b1 b2
    rw [J_spec_RxOk_2_eq hD]
    refine spl (fun h => no hE (b1 h)) (fun h => ?_)
    obtain ⟨n1, n300⟩ := b2 h
    rw [J_spec_RxOk_1_eq hD, tn, nV_rep]
    refine ⟨mkOk_n n300, ?_⟩
    rw [hlG]
    refine loopUp (σ := Unit) x.length (fun k _ => [(5, .int .i64 k), (1, .ptr H.length 0), (4, .sl (H.length + 1) 0 x.length (.ex x.length)), (3, .int .i64 x.length)])
      (fun k _ H' => Ext0 G H' ∧ H'[H.length + 1]? = some (.cells (nV x.length (cnt (x.take k))) false) ∧ ∀ i n, i < k → x[i]? = some n → NodeOk n i) () rfl
      ⟨Ext.app _ _ _, by rw [← hlG]; exact get_new _ _, fun i n hi => by omega⟩ ?_
    rintro k - H1 hk ⟨hE1, hU, hI⟩
    rw [L_spec_RxOk_4_eq hD]
    refine splD (fun h => ?_) (fun h => ?_)
    · have hkl : k < x.length := by omega
      obtain ⟨nd, hnd⟩ : ∃ nd, x[k]? = some nd := ⟨_, List.getElem?_eq_getElem hkl⟩
      obtain ⟨sb, si, sc, kb, ki, kc, c0, c1, c2, c3, c4, hset, hkids⟩ := ((hx0.keep0 hE1).at hnd).read
      rw [J_spec_RxOk_5_eq hD, tn]
      refine ldSl (hE1.cell (cell_of (i := 0) hB rfl) id) ⟨⟨by omega, by omega⟩, ldInt c0 (ldSl c1 (ldSl c2 (ldInt c3 (ldInt c4 ((c_l3Node ⟨sb, si, sc, kb, ki, kc, rfl, hset, hkids⟩ (by omega)).use ?_)))))⟩
      rintro _ H2 ⟨⟨t, rfl, ht⟩, hE2⟩
      have hE12 := hE1.trans hE2
      refine asBoolI (splNot (fun h => no (hE.trans hE12) fun hh => ?_) (fun h => ?_))
      · have := ht.2 (hh.node k nd hnd); rw [h] at this; cases this
      have ok := ht.1 h
      have hI' : ∀ i n, i < k + 1 → x[i]? = some n → NodeOk n i := fun i n hi hn => by
        by_cases e : i = k
        · subst e; rw [hnd] at hn; cases hn; exact ok
        · exact hI i n (by omega) hn
      have hcl : ∀ j, cnt (x.take k) j ≤ 600 := fun j => by
        have := cnt_le (x := x.take k) (fun n hn => by
          obtain ⟨i, hi⟩ := List.mem_iff_getElem?.1 hn
          have hik : i < k := by have := (List.getElem?_eq_some_iff.1 hi).1; simp at this; omega
          rw [List.getElem?_take_of_lt hik] at hi
          have := (hI i n hik hi).len
          have := kidsN_le n.op
          omega) j
        simp at this; omega
      have hkl2 : nd.kids.length ≤ 2 := by rw [ok.len]; exact kidsN_le _
      rw [J_spec_RxOk_7_eq hD]
      refine loopUp (σ := Unit) nd.kids.length (fun m _ => [(6, .int .i64 m), (3, .int .i64 x.length), (4, .sl (H.length + 1) 0 x.length (.ex x.length)), (1, .ptr H.length 0), (5, .int .i64 k)])
        (fun m _ H' => Ext (fun b => b = H.length + 1) H2 H' ∧ H'[H.length + 1]? = some (.cells (nV x.length fun j => cnt (x.take k) j + cntK (nd.kids.take m) j) false)) () rfl ⟨Ext.refl _ _, hE2.get hU id⟩ ?_
      rintro m - H3 hm ⟨hE3, hU3⟩
      have hE3' : Ext0 G H3 := hE12.new (hE3.mono fun y _ hy => .inr (by omega))
      obtain ⟨sb3, si3, sc3, kb3, ki3, kc3, d0, d1, d2, d3, d4, hset3, hkids3⟩ := ((hx0.keep0 hE3').at hnd).read
      rw [L_spec_RxOk_10_eq hD, tn]
      refine ldSl (hE3'.cell (cell_of (i := 0) hB rfl) id) ⟨⟨by omega, by omega⟩, ldSl d2 (splD (fun h5 => ?_) (fun h5 => ?_))⟩
      · obtain ⟨z, hz⟩ : ∃ z, nd.kids[m]? = some z := ⟨_, List.getElem?_eq_getElem (by omega)⟩
        have hzk := ok.kid z (List.mem_of_getElem? hz)
        rw [J_spec_RxOk_12_eq hD, tn, tn]
        refine ldSl (hE3'.cell (cell_of (i := 0) hB rfl) id) ⟨⟨by omega, by omega⟩, ldSl d2 ⟨⟨by omega, by omega⟩, ldInt (hkids3.at hz) ⟨⟨by omega, by omega⟩, ldInt (ncell hU3 (by omega)) ⟨⟨by omega, by omega⟩, ?_⟩⟩⟩⟩
        have e1 : 0 + z.toNat * 1 = z.toNat := by omega
        rw [e1]
        have hb1 := hcl z.toNat
        have hb2 := cntK_le (nd.kids.take m) z.toNat
        have hb3 : (nd.kids.take m).length ≤ 2 := by simp; omega
        rw [w64 (by omega) (by omega)]
        refine nst (fun j => cnt (x.take k) j + cntK (nd.kids.take (m + 1)) j) hU3 (by omega) (by rw [cntK_take hz, if_pos rfl]; omega) (fun j _ hj => by rw [cntK_take hz, if_neg (by omega)]; rfl) ?_
        rw [J_spec_RxOk_16_eq hD, inc (by omega)]
        exact nxt () (by omega) rfl ⟨hE3.trans (Ext.set _ _ _ rfl), get_set _ (get_lt hU3)⟩
      · rw [J_spec_RxOk_6_eq hD, inc (by omega)]
        refine nxt () hkl rfl ⟨hE3', ?_, hI'⟩
        rw [hU3, show m = nd.kids.length by omega, List.take_length]
        congr 2
        exact gl_congr fun j _ => by rw [cnt_take hnd]
    · have ok := okAll (x := x) (fun i n hi hn => hI i n (by omega) hn)
      rw [show k = x.length by omega, List.take_length] at hU
      rw [J_spec_RxOk_3_eq hD, tn, nV_rep, w64 (by omega) (by omega)]
      refine ⟨mkOk_n n300, ?_⟩
      have hl1 := get_lt hU
      refine loopUp (σ := Unit) x.length (fun t _ => [(8, .int .i64 ((x.length : Int) - 1 - (t : Int))), (7, .sl H1.length 0 x.length (.ex x.length)), (1, .ptr H.length 0), (3, .int .i64 x.length), (4, .sl (H.length + 1) 0 x.length (.ex x.length))])
        (fun t _ H' => Ext0 H1 H' ∧ H'[H1.length]? = some (.cells (nV x.length (dpAt x t)) false) ∧ ∀ i, i < x.length → x.length - 1 - i < t → (i < x.length - 1 → cnt (x.drop (i + 1)) i = 1) ∧ dpAt x (x.length - 1 - i) i ≤ 150) () (by simp) ⟨Ext.app _ _ _, get_new _ _, fun i _ hi => by omega⟩ ?_
      rintro t - H2 ht ⟨hE2, hU2, hI2⟩
      rw [L_spec_RxOk_9_eq hD]
      refine splD (fun h5 => ?_) (fun h5 => ?_)
      · have htl : t < x.length := by omega
        have e : (x.length : Int) - 1 - (t : Int) = ((x.length - 1 - t : Nat) : Int) := by omega
        rw [e]
        generalize hi : x.length - 1 - t = i at e
        have hil : i < x.length := by omega
        have hti : t = x.length - 1 - i := by omega
        obtain ⟨nd, hnd⟩ : ∃ nd, x[i]? = some nd := ⟨_, List.getElem?_eq_getElem hil⟩
        have okn := ok i nd hnd
        have dl := dpAt_le x t i
        have gd : H2.cell H1.length (0 + ((i : Int)).toNat * 1) = some (.int .i64 (dpAt x t i : Int)) := by rw [tn, Nat.zero_add, Nat.mul_one]; exact ncell hU2 hil
        have gu : H2.cell (H.length + 1) (0 + ((i : Int)).toNat * 1) = some (.int .i64 (cnt x i : Int)) := by rw [tn, Nat.zero_add, Nat.mul_one]; exact ncell (hE2.get hU id) hil
        rw [J_spec_RxOk_11_eq hD, w64 (by omega) (by omega)]
        have fin : ∀ b : Bool, (b = true → ¬ RxOk x) → (b = false → (i < x.length - 1 → cnt (x.drop (i + 1)) i = 1) ∧ dpAt x t i ≤ 150) →
            J_spec_RxOk_15 D (fun r H' => TellsB r (RxOk x) ∧ Ext0 H H') (Nxt x.length (fun t _ => [(8, .int .i64 ((x.length : Int) - 1 - (t : Int))), (7, .sl H1.length 0 x.length (.ex x.length)), (1, .ptr H.length 0), (3, .int .i64 x.length), (4, .sl (H.length + 1) 0 x.length (.ex x.length))])
        (fun t (_ : Unit) H' => Ext0 H1 H' ∧ H'[H1.length]? = some (.cells (nV x.length (dpAt x t)) false) ∧ ∀ i, i < x.length → x.length - 1 - i < t → (i < x.length - 1 → cnt (x.drop (i + 1)) i = 1) ∧ dpAt x (x.length - 1 - i) i ≤ 150) t)
              [(84, .bool b), (8, .int .i64 (i : Int)), (7, .sl H1.length 0 x.length (.ex x.length)), (1, .ptr H.length 0), (3, .int .i64 x.length), (4, .sl (H.length + 1) 0 x.length (.ex x.length))] H2 := by
          intro b b1 b2
          rw [J_spec_RxOk_15_eq hD]
          refine spl (fun h => no ((hE.trans hE1).trans hE2) (b1 h)) (fun h => ?_)
          have hb := b2 h
          have hkl2 : nd.kids.length ≤ 2 := by rw [okn.len]; exact kidsN_le _
          rw [J_spec_RxOk_14_eq hD]
          refine loopUp (σ := Unit) nd.kids.length (fun m _ => [(9, .int .i64 m), (4, .sl (H.length + 1) 0 x.length (.ex x.length)), (3, .int .i64 x.length), (1, .ptr H.length 0), (7, .sl H1.length 0 x.length (.ex x.length)), (8, .int .i64 (i : Int))])
            (fun m _ H' => Ext (fun b => b = H1.length) H2 H' ∧ H'[H1.length]? = some (.cells (nV x.length (dpK (dpAt x t) i (nd.kids.take m))) false)) () rfl ⟨Ext.refl _ _, by rw [hU2]; rfl⟩ ?_
          rintro m - H3 hm ⟨hE3, hU3⟩
          have hE3a : Ext0 H1 H3 := hE2.new (hE3.mono fun y _ hy => .inr (by omega))
          have hE3' : Ext0 G H3 := hE1.trans hE3a
          obtain ⟨sb3, si3, sc3, kb3, ki3, kc3, d0, d1, d2, d3, d4, hset3, hkids3⟩ := ((hx0.keep0 hE3').at hnd).read
          rw [L_spec_RxOk_17_eq hD, tn]
          refine ldSl (hE3'.cell (cell_of (i := 0) hB rfl) id) ⟨⟨by omega, by omega⟩, ldSl d2 (splD (fun h5 => ?_) (fun h5 => ?_))⟩
          · obtain ⟨z, hz⟩ : ∃ z, nd.kids[m]? = some z := ⟨_, List.getElem?_eq_getElem (by omega)⟩
            have hzk := okn.kid z (List.mem_of_getElem? hz)
            have hfi : dpK (dpAt x t) i (nd.kids.take m) i = dpAt x t i := by
              unfold dpK; rw [if_pos (cntK_zero fun y hy => okn.kid y (List.mem_of_mem_take hy))]
            rw [J_spec_RxOk_18_eq hD, tn, tn]
            refine ldSl (hE3'.cell (cell_of (i := 0) hB rfl) id) ⟨⟨by omega, by omega⟩, ldSl d2 ⟨⟨by omega, by omega⟩, ldInt (hkids3.at hz) ⟨⟨by omega, by omega⟩, ldInt (ncell hU3 (by omega)) ⟨⟨by omega, by omega⟩, ?_⟩⟩⟩⟩
            have e1 : 0 + z.toNat * 1 = z.toNat := by omega
            have e2 : 0 + i * 1 = i := by omega
            rw [e1, e2, hfi, w64 (by omega) (by omega)]
            refine nst (dpK (dpAt x t) i (nd.kids.take (m + 1))) hU3 (by omega) ?_ (fun j _ hj => ?_) ?_
            · unfold dpK; rw [if_neg (by rw [cntK_take hz, if_pos rfl]; omega)]; omega
            · unfold dpK; rw [cntK_take hz, show (if z.toNat = j then 1 else 0) = 0 from if_neg (by omega), Nat.add_zero]
            · rw [J_spec_RxOk_19_eq hD, inc (by omega)]
              exact nxt () (by omega) rfl ⟨hE3.trans (Ext.set _ _ _ rfl), get_set _ (get_lt hU3)⟩
          · rw [J_spec_RxOk_13_eq hD, w64 (by omega) (by omega)]
            refine nxt () htl (by rw [show (i : Int) - 1 = (x.length : Int) - 1 - ((t + 1 : Nat) : Int) by omega]) ⟨hE3a, ?_, fun j hj hjt => ?_⟩
            · rw [hU3, show m = nd.kids.length by omega, List.take_length]
              simp only [dpAt, hi, hnd]
            · by_cases e : x.length - 1 - j < t
              · exact hI2 j hj e
              · have : j = i := by omega
                subst this
                rw [← hti]
                exact hb
        refine splD (fun h6 => ?_) (fun h6 => ?_)
        · refine ⟨⟨by omega, by omega⟩, ldInt gu (splN (fun h7 => fin true (fun _ hh => h7 ?_) (fun h => by cases h)) (fun h7 => ⟨⟨by omega, by omega⟩, ldInt gd (fin _ (fun h8 hh => ?_) (fun h8 => ⟨fun _ => ?_, ?_⟩))⟩))⟩
          · rw [cnt_all ok, hh.once i (by omega)]; rfl
          · have := hh.deep i hil; rw [← hti] at this; have := of_decide_eq_true h8; omega
          · rw [← cnt_all ok]; omega
          · have := of_decide_eq_false h8; omega
        · refine ⟨⟨by omega, by omega⟩, ldInt gd (fin _ (fun h8 hh => ?_) (fun h8 => ⟨fun h => by omega, ?_⟩))⟩
          · have := hh.deep i hil; rw [← hti] at this; have := of_decide_eq_true h8; omega
          · have := of_decide_eq_false h8; omega
      · rw [J_spec_RxOk_8_eq hD]
        refine ⟨⟨true, rfl, by simp; exact ⟨n1, n300, ok, fun i hi => (hI2 i (by omega) (by omega)).1 hi, fun i hi => (hI2 i hi (by omega)).2⟩⟩, (hE.trans hE1).trans hE2⟩
  refine ldSl (cell_of (i := 0) hB rfl) (splD (fun h => J2 true (fun _ hh => by have := hh.pos; omega) (fun h => by cases h)) (fun h => J2 _ (fun h1 hh => ?_) (fun h1 => ?_)))
  · have := of_decide_eq_true h1; have := hh.most; omega
  · have := of_decide_eq_false h1; omega

end Go.Proofs.YtpjkammmoaeheaaDoor.Aw

/- Contracts: whether an expression is right: the program's. -/
set_option linter.unusedSimpArgs false
set_option linter.unusedVariables false
set_option maxRecDepth 10000
namespace Go.Proofs.YtpjkammmoaeheaaDoor.Aw
open Go Go.RowKit

theorem c_implRxOk {F : Nat → Prop} {H : AH} {v : V} {x : List Nd} (hx : IsNodes F H v x) : CallsA prog impl_RxOk [.agg [v]] H fun r H' => TellsB r (RxOk x) ∧ Ext0 H H' := by
  have hx0 := hx
  obtain ⟨xb, xi, xc, rfl, hxl, -⟩ := hx
  refine impl_RxOk_in fun D hD => ?_
  rw [impl_RxOk_eq hD]
  generalize hG : H ++ [Blk.cells [V.sl xb xi x.length xc] false] = G
  have hE : Ext0 H G := by rw [← hG]; exact Ext.app _ _ _
  have hB : G[H.length]? = some (.cells [V.sl xb xi x.length xc] false) := by rw [← hG]; exact get_new _ _
  have hlG : G.length = H.length + 1 := by rw [← hG]; simp
  have hx0 := hx0.keep0 hE
  have no : ∀ {G}, Ext0 H G → ¬ RxOk x → TellsB (.bool false) (RxOk x) ∧ Ext0 H G := fun hE h => ⟨⟨false, rfl, by simp [h]⟩, hE⟩
  refine ldSl (cell_of (i := 0) hB rfl) ((c_size _ _ _ _ _).use ?_)
  rintro _ G ⟨rfl, rfl⟩
  refine asIntI ((c_within _ _ _ _).use ?_)
  rintro _ G ⟨rfl, rfl⟩
  refine asBoolI (splND (fun h => no hE fun hh => h ⟨by have := hh.pos; omega, by have := hh.most; omega⟩) (fun h => ?_))
  obtain ⟨n1, n300⟩ : 1 ≤ x.length ∧ x.length ≤ 300 := by omega
  rw [J_impl_RxOk_1_eq hD]
  have gB := cell_of (i := 0) hB rfl
  refine ldSl gB (ldSl gB ⟨mkOk_n n300, ?_⟩)
  rw [tn, nV_rep]
  refine ldSl ((Ext.app (fun _ => False) _ _).cell gB id) ⟨mkOk_n n300, ?_⟩
  have l1 : (G ++ [Blk.cells (nV x.length fun _ => 0) false]).length = H.length + 2 := by simp [hlG]
  rw [tn, nV_rep, l1, hlG, w64 (by omega) (by omega)]
  generalize hK : G ++ [Blk.cells (nV x.length fun _ => 0) false] ++ [Blk.cells (nV x.length fun _ => 0) false] = K
  have hEK : Ext0 G K := by rw [← hK]; exact (Ext.app _ _ _).trans (Ext.app _ _ _)
  have k1 : K[H.length + 1]? = some (.cells (nV x.length fun _ => 0) false) := by rw [← hK, List.getElem?_append_left (by simp [hlG]), ← hlG]; exact get_new _ _
  have k2 : K[H.length + 2]? = some (.cells (nV x.length fun _ => 0) false) := by rw [← hK, ← l1]; exact get_new _ _
  refine loopUp (σ := Unit) x.length (fun t _ => [(6, .int .i64 ((x.length : Int) - 1 - (t : Int))), (5, .sl (H.length + 2) 0 x.length (.ex x.length)), (4, .sl (H.length + 1) 0 x.length (.ex x.length)), (1, .ptr H.length 0), (3, .int .i64 ((x.length : Int) - 1))])
    (fun t _ H' => Ext0 G H' ∧ H'[H.length + 1]? = some (.cells (nV x.length (cnt (x.drop (x.length - t)))) false) ∧ H'[H.length + 2]? = some (.cells (nV x.length (dpAt x t)) false) ∧
      ∀ i, i < x.length → x.length - 1 - i < t → (∀ n, x[i]? = some n → NodeOk n i) ∧ (i < x.length - 1 → cnt (x.drop (i + 1)) i = 1) ∧ dpAt x (x.length - 1 - i) i ≤ 150) () (by simp)
    ⟨hEK, by rw [k1, Nat.sub_zero, List.drop_length]; rfl, by rw [k2]; rfl, fun i _ hi => by omega⟩ ?_
  rintro t - H1 ht ⟨hE1, hC, hU, hI⟩
  have lC := get_lt hC
  have lU := get_lt hU
  rw [L_impl_RxOk_3_eq hD]
  refine splD (fun h5 => ?_) (fun h5 => ?_)
  · have htl : t < x.length := by omega
    have e : (x.length : Int) - 1 - (t : Int) = ((x.length - 1 - t : Nat) : Int) := by omega
    rw [e]
    generalize hi : x.length - 1 - t = i at e
    have hil : i < x.length := by omega
    have hti : t = x.length - 1 - i := by omega
    have hdi : x.length - t = i + 1 := by omega
    rw [hdi] at hC
    obtain ⟨nd, hnd⟩ : ∃ nd, x[i]? = some nd := ⟨_, List.getElem?_eq_getElem hil⟩
    have dl := dpAt_le x t i
    obtain ⟨sb, si, sc, kb, ki, kc, c0, c1, c2, c3, c4, hset, hkids⟩ := (hx0.at hnd).read
    rw [J_impl_RxOk_4_eq hD, tn]
    refine ldSl (hE1.cell gB id) ⟨⟨by omega, by omega⟩, ldInt (hE1.cell c0 id) (ldSl (hE1.cell c1 id) (ldSl (hE1.cell c2 id) (ldInt (hE1.cell c3 id) (ldInt (hE1.cell c4 id) (stAll (get_new _ _) rfl ?_)))))⟩
    generalize hT : (H1 ++ [Blk.cells [V.int .i64 0, .sl 0 0 0 .nil, .sl 0 0 0 .nil, .int .i64 0, .int .i64 0] false]).set H1.length (.cells [V.int .i64 nd.op, .sl sb si nd.set.length sc, .sl kb ki nd.kids.length kc, .int .i64 nd.mn, .int .i64 nd.mx] false) = T
    have hET : Ext0 H1 T := by rw [← hT]; exact (Ext.app (fun _ => False) _ _).new (Ext.set _ _ _ (.inr (Nat.le_refl _)))
    have hN : T[H1.length]? = some (.cells [V.int .i64 nd.op, .sl sb si nd.set.length sc, .sl kb ki nd.kids.length kc, .int .i64 nd.mn, .int .i64 nd.mx] false) := by rw [← hT]; exact get_set _ (by simp)
    refine ldInt (cell_of (i := 0) hN rfl) (ldSl (cell_of (i := 1) hN rfl) (ldSl (cell_of (i := 2) hN rfl) (ldInt (cell_of (i := 3) hN rfl) (ldInt (cell_of (i := 4) hN rfl) ((c_nodeOk (n := nd) ⟨sb, si, sc, kb, ki, kc, rfl, hset.keep0 (hE1.trans hET), hkids.keep0 (hE1.trans hET)⟩ (by omega)).use ?_)))))
    rintro _ H2 ⟨⟨u, rfl, hu⟩, hE2⟩
    have hE12 : Ext0 H1 H2 := hET.trans hE2
    have hEG2 := hE1.trans hE12
    have hEH2 := hE.trans hEG2
    have hN2 := hE2.get hN id
    have fin : ∀ b : Bool, (b = true → ¬ RxOk x) → (b = false → NodeOk nd i ∧ (i < x.length - 1 → cnt (x.drop (i + 1)) i = 1) ∧ dpAt x t i ≤ 150) →
        J_impl_RxOk_7 D (fun r H' => TellsB r (RxOk x) ∧ Ext0 H H') (Nxt x.length (fun t _ => [(6, .int .i64 ((x.length : Int) - 1 - (t : Int))), (5, .sl (H.length + 2) 0 x.length (.ex x.length)), (4, .sl (H.length + 1) 0 x.length (.ex x.length)), (1, .ptr H.length 0), (3, .int .i64 ((x.length : Int) - 1))])
    (fun t (_ : Unit) H' => Ext0 G H' ∧ H'[H.length + 1]? = some (.cells (nV x.length (cnt (x.drop (x.length - t)))) false) ∧ H'[H.length + 2]? = some (.cells (nV x.length (dpAt x t)) false) ∧
      ∀ i, i < x.length → x.length - 1 - i < t → (∀ n, x[i]? = some n → NodeOk n i) ∧ (i < x.length - 1 → cnt (x.drop (i + 1)) i = 1) ∧ dpAt x (x.length - 1 - i) i ≤ 150) t)
          [(59, .bool b), (6, .int .i64 (i : Int)), (5, .sl (H.length + 2) 0 x.length (.ex x.length)), (4, .sl (H.length + 1) 0 x.length (.ex x.length)), (1, .ptr H.length 0), (3, .int .i64 ((x.length : Int) - 1)), (7, .ptr H1.length 0)] H2 := by
      intro b b1 b2
      rw [J_impl_RxOk_7_eq hD]
      refine spl (fun h => no hEH2 (b1 h)) (fun h => ?_)
      obtain ⟨okn, ho, hd⟩ := b2 h
      have hkl2 : nd.kids.length ≤ 2 := by rw [okn.len]; exact kidsN_le _
      have hcl : ∀ j, cnt (x.drop (i + 1)) j ≤ 600 := fun j => by
        have := cnt_le (x := x.drop (i + 1)) (fun n hn => by
          obtain ⟨m, hm⟩ := List.mem_iff_getElem?.1 hn
          rw [List.getElem?_drop] at hm
          have hml := (List.getElem?_eq_some_iff.1 hm).1
          have := ((hI (i + 1 + m) hml (by omega)).1 n hm).len
          have := kidsN_le n.op
          omega) j
        simp at this; omega
      rw [J_impl_RxOk_6_eq hD]
      refine ldSl (cell_of (i := 2) hN2 rfl) ?_
      refine loopUp (σ := Unit) nd.kids.length (fun m _ => [(63, .int .i64 m), (62, .int .i64 nd.kids.length), (3, .int .i64 ((x.length : Int) - 1)), (1, .ptr H.length 0), (61, .sl kb ki nd.kids.length kc), (4, .sl (H.length + 1) 0 x.length (.ex x.length)), (5, .sl (H.length + 2) 0 x.length (.ex x.length)), (6, .int .i64 (i : Int))])
        (fun m _ H' => Ext (fun b => b = H.length + 1 ∨ b = H.length + 2) H2 H' ∧ H'[H.length + 1]? = some (.cells (nV x.length fun j => cnt (x.drop (i + 1)) j + cntK (nd.kids.take m) j) false) ∧ H'[H.length + 2]? = some (.cells (nV x.length (dpK (dpAt x t) i (nd.kids.take m))) false)) () rfl
        ⟨Ext.refl _ _, hE12.get hC id, by rw [hE12.get hU id]; rfl⟩ ?_
      rintro m - H3 hm ⟨hE3, hC3, hU3⟩
      have hE3G : Ext0 G H3 := hEG2.new (hE3.mono fun y _ hy => .inr (by omega))
      have hk3 : ∀ z, nd.kids[m]? = some z → H3.cell kb (ki + m * 1) = some (.int .i64 z) := fun z hz => (hkids.keep0 hE3G).at hz
      rw [L_impl_RxOk_8_eq hD]
      refine splD (fun h5 => ?_) (fun h5 => ?_)
      · obtain ⟨z, hz⟩ : ∃ z, nd.kids[m]? = some z := ⟨_, List.getElem?_eq_getElem (by omega)⟩
        have hzk := okn.kid z (List.mem_of_getElem? hz)
        have hfi : dpK (dpAt x t) i (nd.kids.take m) i = dpAt x t i := by
          unfold dpK; rw [if_pos (cntK_zero fun y hy => okn.kid y (List.mem_of_mem_take hy))]
        have e1 : 0 + z.toNat * 1 = z.toNat := by omega
        have e2 : 0 + i * 1 = i := by omega
        rw [J_impl_RxOk_9_eq hD, tn, tn, e2]
        refine ⟨⟨by omega, by omega⟩, ldInt (hk3 z hz) ⟨⟨by omega, by omega⟩, ?_⟩⟩
        rw [e1]
        refine ldInt (ncell hC3 (by omega)) ⟨⟨by omega, by omega⟩, ?_⟩
        have hb1 := hcl z.toNat
        have hb2 := cntK_le (nd.kids.take m) z.toNat
        have hb3 : (nd.kids.take m).length ≤ 2 := by simp; omega
        rw [w64 (by omega) (by omega)]
        refine nst (fun j => cnt (x.drop (i + 1)) j + cntK (nd.kids.take (m + 1)) j) hC3 (by omega) (by rw [cntK_take hz, if_pos rfl]; omega) (fun j _ hj => by rw [cntK_take hz, if_neg (by omega)]; rfl) ?_
        generalize hS : H3.set (H.length + 1) (.cells (nV x.length fun j => cnt (x.drop (i + 1)) j + cntK (nd.kids.take (m + 1)) j) false) = S
        have hES : Ext (fun b => b = H.length + 1) H3 S := by rw [← hS]; exact Ext.set _ _ _ rfl
        have hSC : S[H.length + 1]? = some (.cells (nV x.length fun j => cnt (x.drop (i + 1)) j + cntK (nd.kids.take (m + 1)) j) false) := by rw [← hS]; exact get_set _ (get_lt hC3)
        have hSU := hES.get hU3 (by omega)
        refine ⟨⟨by omega, by omega⟩, ldInt (ncell hSU (by omega)) ⟨⟨by omega, by omega⟩, ?_⟩⟩
        rw [hfi, w64 (by omega) (by omega)]
        refine nst (dpK (dpAt x t) i (nd.kids.take (m + 1))) hSU (by omega) ?_ (fun j _ hj => ?_) ?_
        · unfold dpK; rw [if_neg (by rw [cntK_take hz, if_pos rfl]; omega)]; omega
        · unfold dpK; rw [cntK_take hz, show (if z.toNat = j then 1 else 0) = 0 from if_neg (by omega), Nat.add_zero]
        · rw [J_impl_RxOk_10_eq hD, inc (by omega)]
          have hES2 : ∀ B, Ext (fun b => b = H.length + 2) S (S.set (H.length + 2) B) := fun B => Ext.set _ _ _ rfl
          exact nxt () (by omega) rfl ⟨hE3.trans ((hES.mono fun y _ hy => .inl hy).trans ((hES2 _).mono fun y _ hy => .inr hy)), (hES2 _).get hSC (by omega), get_set _ (get_lt hSU)⟩
      · rw [J_impl_RxOk_5_eq hD, w64 (by omega) (by omega)]
        have hm : m = nd.kids.length := by omega
        rw [hm, List.take_length] at hC3 hU3
        refine nxt () htl (by rw [show (i : Int) - 1 = (x.length : Int) - 1 - ((t + 1 : Nat) : Int) by omega]) ⟨hE3G, ?_, ?_, fun j hj hjt => ?_⟩
        · rw [hC3, show x.length - (t + 1) = i by omega]
          congr 2
          exact gl_congr fun j _ => by simp only; rw [cnt_drop hnd]; congr 1; omega
        · rw [hU3]; simp only [dpAt, hi, hnd]
        · by_cases e : x.length - 1 - j < t
          · exact hI j hj e
          · have : j = i := by omega
            subst this
            rw [← hti]
            exact ⟨fun n hn => by rw [hnd] at hn; cases hn; exact okn, ho, hd⟩
    have gd : H2.cell (H.length + 2) (0 + i * 1) = some (.int .i64 (dpAt x t i : Int)) := by rw [Nat.zero_add, Nat.mul_one]; exact ncell (hE12.get hU id) hil
    have gu : H2.cell (H.length + 1) (0 + i * 1) = some (.int .i64 (cnt (x.drop (i + 1)) i : Int)) := by rw [Nat.zero_add, Nat.mul_one]; exact ncell (hE12.get hC id) hil
    refine asBoolI (splNot (fun h => fin true (fun _ hh => ?_) (fun h => by cases h)) (fun h => ?_))
    · have := hu.2 (hh.node i nd hnd); rw [h] at this; cases this
    have okn := hu.1 h
    refine splD (fun h6 => ?_) (fun h6 => ?_)
    · refine ⟨⟨by omega, by omega⟩, ldInt gu (splN (fun h7 => fin true (fun _ hh => h7 ?_) (fun h => by cases h)) (fun h7 => ⟨⟨by omega, by omega⟩, ldInt gd (fin _ (fun h8 hh => ?_) (fun h8 => ⟨okn, fun _ => ?_, ?_⟩))⟩))⟩
      · rw [hh.once i (by omega)]; rfl
      · have := hh.deep i hil; rw [← hti] at this; have := of_decide_eq_true h8; omega
      · omega
      · have := of_decide_eq_false h8; omega
    · refine ⟨⟨by omega, by omega⟩, ldInt gd (fin _ (fun h8 hh => ?_) (fun h8 => ⟨okn, fun h => by omega, ?_⟩))⟩
      · have := hh.deep i hil; rw [← hti] at this; have := of_decide_eq_true h8; omega
      · have := of_decide_eq_false h8; omega
  · have ok : RxOk x := ⟨n1, n300, okAll fun i n hi hn => (hI i hi (by omega)).1 n hn, fun i hi => (hI i (by omega) (by omega)).2.1 hi, fun i hi => (hI i hi (by omega)).2.2⟩
    have e : (x.length : Int) - 1 = ((x.length - 1 : Nat) : Int) := by omega
    rw [J_impl_RxOk_2_eq hD, e, tn]
    rw [show x.length - t = 0 by omega, List.drop_zero] at hC
    refine ⟨⟨by omega, by omega⟩, ldInt (ncell hC (by omega)) ⟨⟨_, rfl, ?_⟩, hE.trans hE1⟩⟩
    have : cnt x (0 + (x.length - 1) * 1) = 0 := by
      rw [cnt_all ok.node, show 0 + (x.length - 1) * 1 + 1 = x.length by omega, List.drop_length]; rfl
    rw [this]
    simp [ok]

end Go.Proofs.YtpjkammmoaeheaaDoor.Aw

/- Contracts: expressions that are drawn. -/
set_option linter.unusedSimpArgs false
set_option linter.unusedVariables false
set_option maxRecDepth 10000
namespace Go.Proofs.YtpjkammmoaeheaaDoor.Aw
open Go Go.RowKit

/-! ### Nodes that the call owns, with all that they hold apart -/
structure Raw where
  op : Int
  sb : Nat
  si : Nat
  sc : Cap
  kb : Nat
  kn : Nat
  kc : Cap
  mn : Int
  mx : Int
  set : Cls
  kids : List Int

def Raw.cells (r : Raw) : List V := [.int .i64 r.op, .sl r.sb r.si r.set.length r.sc, .sl r.kb 0 r.kn r.kc, .int .i64 r.mn, .int .i64 r.mx]
def Raw.blks (r : Raw) : List Nat := (match r.set with | [] => [] | _ => [r.sb]) ++ (match r.kc with | .nil => [] | _ => [r.kb])
def Raw.nd (r : Raw) : Nd := ⟨r.op, r.set, r.kids, r.mn, r.mx⟩

def RawOk (n0 : Nat) (H : AH) (r : Raw) : Prop := IsSpans (fun x => n0 ≤ x ∧ x = r.sb) H (.sl r.sb r.si r.set.length r.sc) r.set ∧ Own n0 1 H r.kb r.kn r.kc (r.kids.map vI)

theorem Raw.sb_mem {r : Raw} (h : r.set ≠ []) : r.sb ∈ r.blks := by
  unfold Raw.blks
  cases hs : r.set with
  | nil => exact absurd hs h
  | cons _ _ => simp
theorem Raw.kb_mem {r : Raw} (h : r.kc ≠ .nil) : r.kb ∈ r.blks := by
  unfold Raw.blks
  cases hs : r.kc with
  | nil => exact absurd hs h
  | _ => simp
theorem Raw.mem_blks {r : Raw} {x : Nat} (h : x ∈ r.blks) : (r.set ≠ [] ∧ x = r.sb) ∨ (r.kc ≠ .nil ∧ x = r.kb) := by
  unfold Raw.blks at h
  rcases List.mem_append.1 h with h | h
  · cases hs : r.set with
    | nil => rw [hs] at h; simp at h
    | cons _ _ => rw [hs] at h; left; simpa using h
  · cases hs : r.kc with
    | nil => rw [hs] at h; simp at h
    | _ => rw [hs] at h; right; simpa using h

theorem RawOk.lt {n0 : Nat} {H : AH} {r : Raw} (h : RawOk n0 H r) {x : Nat} (hx : x ∈ r.blks) : n0 ≤ x ∧ x < H.length := by
  obtain ⟨⟨b, i, c, e, h1, h2, h3⟩, h4, h5⟩ := h
  cases e
  rcases Raw.mem_blks hx with ⟨hs, rfl⟩ | ⟨hk, rfl⟩
  · refine ⟨(h2 hs).1, ?_⟩
    cases hl : r.set with
    | nil => exact absurd hl hs
    | cons s l => exact cell_lt (h3 0 s (by rw [hl]; rfl)).1
  · rcases h5 with ⟨h5, _⟩ | ⟨h5, h6, _⟩
    · exact absurd h5 hk
    · exact ⟨h5, get_lt h6⟩
theorem RawOk.keep {n0 : Nat} {H H' : AH} {r : Raw} (h : RawOk n0 H r) {X : Nat → Prop} (he : Ext X H H') (hx : ∀ x ∈ r.blks, ¬ X x) : RawOk n0 H' r := by
  refine ⟨?_, h.2.keep' he fun hk => hx _ (Raw.kb_mem hk)⟩
  obtain ⟨b, i, c, e, h1, h2, h3⟩ := h.1
  refine ⟨b, i, c, e, h1, h2, fun k s hs => ?_⟩
  have hne : r.set ≠ [] := by intro h0; rw [h0] at hs; simp at hs
  have hb := (h2 hne).2
  have := h3 k s hs
  exact ⟨he.cell this.1 (by rw [hb]; exact hx _ (Raw.sb_mem hne)), he.cell this.2 (by rw [hb]; exact hx _ (Raw.sb_mem hne))⟩

abbrev blksOf (rs : List Raw) : List Nat := rs.flatMap Raw.blks

structure RxO (n0 : Nat) (H : AH) (nb nn : Nat) (nc : Cap) (rs : List Raw) : Prop where
  own : Own n0 5 H nb nn nc (rs.flatMap Raw.cells)
  raw : ∀ r ∈ rs, RawOk n0 H r
  out : nc ≠ .nil → nb ∉ blksOf rs
  nodup : (blksOf rs).Nodup

theorem RxO.len {n0 nb nn : Nat} {H : AH} {nc : Cap} {rs : List Raw} (h : RxO n0 H nb nn nc rs) : nn = rs.length := by
  have := h.own.len
  rw [flat_len (n := 5) (fun _ => rfl)] at this
  omega
theorem RxO.lt {n0 nb nn : Nat} {H : AH} {nc : Cap} {rs : List Raw} (h : RxO n0 H nb nn nc rs) {x : Nat} (hx : x ∈ blksOf rs) : n0 ≤ x ∧ x < H.length := by
  obtain ⟨r, hr, hx⟩ := List.mem_flatMap.1 hx
  exact (h.raw r hr).lt hx
theorem RxO.keep {n0 nb nn : Nat} {H H' : AH} {nc : Cap} {rs : List Raw} (h : RxO n0 H nb nn nc rs) {X : Nat → Prop} (he : Ext X H H') (hn : nc ≠ .nil → ¬ X nb) (hx : ∀ x ∈ blksOf rs, ¬ X x) : RxO n0 H' nb nn nc rs :=
  ⟨h.own.keep' he hn, fun r hr => (h.raw r hr).keep he fun x hxb => hx x (List.mem_flatMap.2 ⟨r, hr, hxb⟩), h.out, h.nodup⟩

theorem RxO.push {n0 nb nn : Nat} {H : AH} {nc : Cap} {rs : List Raw} {r : Raw} {K : Nat → Nat → Nat → Cap → AH → Prop} (h : RxO n0 H nb nn nc rs) (hr : RawOk n0 H r) (hf : ∀ x ∈ r.blks, x ∉ blksOf rs ∧ (nc ≠ .nil → x ≠ nb)) (hnd : r.blks.Nodup) (hlen : rs.length ≤ 1000000) (hn0 : n0 ≤ H.length)
    (hK : ∀ H', RxO n0 H' (H.length + 1) (nn + 1) (.toEnd 5) (rs ++ [r]) → Ext (fun x => n0 ≤ x ∧ x = nb ∧ nc ≠ .nil) H H' → K (H.length + 1) 0 (nn + 1) (.toEnd 5) H') : app (H ++ [.cells r.cells false]) 5 72 nb 0 nn nc 1 r.cells K := by
  have hnn := h.len
  have hl : (H ++ [Blk.cells r.cells false]).length = H.length + 1 := by simp
  have hE0 : Ext (fun x => n0 ≤ x ∧ x = nb ∧ nc ≠ .nil) H (H ++ [Blk.cells r.cells false]) := Ext.app _ _ _
  have hO : Own n0 5 (H ++ [.cells r.cells false]) nb nn nc (rs.flatMap Raw.cells) := h.own.keep (Ext.app (fun _ => False) _ _) (fun _ => id)
  refine hO.push (m := 1) rfl (by omega) (by omega) (by omega) (by omega) (by omega) fun H' hO' hl' he => ?_
  rw [hl] at hO' hl' ⊢
  have hE : Ext (fun x => n0 ≤ x ∧ x = nb ∧ nc ≠ .nil) H H' := hE0.trans he
  refine hK H' ⟨?_, fun q hq => ?_, fun _ => ?_, ?_⟩ hE
  · rw [List.flatMap_append]; simpa using hO'
  · rcases List.mem_append.1 hq with hq | hq
    · exact (h.raw q hq).keep hE fun x hx hh => h.out hh.2.2 (hh.2.1 ▸ List.mem_flatMap.2 ⟨q, hq, hx⟩)
    · have : q = r := by simpa using hq
      subst this
      exact hr.keep hE fun x hx hh => (hf x hx).2 hh.2.2 hh.2.1
  · intro hm
    obtain ⟨q, hq, hx⟩ := List.mem_flatMap.1 hm
    rcases List.mem_append.1 hq with hq | hq
    · have := ((h.raw q hq).lt hx).2; omega
    · have : q = r := by simpa using hq
      subst this
      have := (hr.lt hx).2; omega
  · rw [blksOf, List.flatMap_append, List.nodup_append]
    refine ⟨h.nodup, by simpa using hnd, fun a ha b hb => ?_⟩
    have hb' : b ∈ r.blks := by simpa using hb
    rintro rfl
    exact (hf a hb').1 ha

end Go.Proofs.YtpjkammmoaeheaaDoor.Aw

/- Contracts: an expression grows. -/
set_option linter.unusedSimpArgs false
set_option linter.unusedVariables false
set_option maxRecDepth 10000
namespace Go.Proofs.YtpjkammmoaeheaaDoor.Aw
open Go Go.RowKit

def GrowPost (rb : Nat) (H : AH) (nb : Nat) (nc : Cap) (rs : List Raw) (deep : Nat) (v : V) (H' : AH) : Prop :=
  ∃ nb' nn' nc' rs', v = .sl nb' 0 nn' nc' ∧ RxO (rb + 1) H' nb' nn' nc' rs' ∧ rs' ≠ [] ∧ rs'.length + 1 ≤ rs.length + 2 ^ (deep + 1) ∧ H.length ≤ nb' ∧ (∀ x ∈ blksOf rs', x ∈ blksOf rs ∨ H.length ≤ x) ∧
    Rd H' rb ∧ Ext (fun x => x = rb ∨ (x = nb ∧ nc ≠ .nil)) H H'

theorem ownSet {n0 b n : Nat} {H : AH} {cp : Cap} {c : Cls} (h : Own n0 2 H b n cp (c.flatMap spanV)) : n = c.length ∧ IsSpans (fun x => n0 ≤ x ∧ x = b) H (.sl b 0 n cp) c := by
  obtain ⟨⟨h1, h10⟩, h2⟩ := h
  have hn : n = c.length := by rw [flat_len (n := 2) (fun _ => rfl)] at h1; omega
  subst hn
  refine ⟨rfl, ?_⟩
  rcases h2 with ⟨rfl, h0, rfl⟩ | ⟨hb, hH, _⟩
  · have : c = [] := List.length_eq_zero_iff.1 h0
    subst this
    exact IsRow.nil
  · exact IsRow.of_block2 hH ⟨hb, rfl⟩ h10

theorem grow_step (deep : Nat) (hd8 : deep ≤ 8) (ih : ∀ d, d + 1 = deep → ∀ (H : AH) (rb nb nn : Nat) (nc : Cap) (rs : List Raw), Rd H rb → RxO (rb + 1) H nb nn nc rs → rs.length + 2 ^ (d + 1) ≤ 100000 →
    CallsA prog spec_l1Rd_grow [.ptr rb 0, .sl nb 0 nn nc, .int .i64 d] H fun v H' => GrowPost rb H nb nc rs d v H') : ∀ (H : AH) (rb nb nn : Nat) (nc : Cap) (rs : List Raw), Rd H rb → RxO (rb + 1) H nb nn nc rs → rs.length + 2 ^ (deep + 1) ≤ 100000 →
    CallsA prog spec_l1Rd_grow [.ptr rb 0, .sl nb 0 nn nc, .int .i64 deep] H fun v H' => GrowPost rb H nb nc rs deep v H' := by
  intro H rb nb nn nc rs hr hx hlen
  have hlt := hr.lt
  have p2 : 2 ≤ 2 ^ (deep + 1) := by have := Nat.pow_le_pow_right (n := 2) (by omega) (show 1 ≤ deep + 1 by omega); simpa using this
  refine spec_l1Rd_grow_in fun D hD => ?_
  rw [spec_l1Rd_grow_eq hD]
  -- the end: the node is laid behind the others
  have tail : ∀ (G : AH) (nb1 nn1 : Nat) (nc1 : Cap) (rs1 : List Raw) (r : Raw), Rd G rb → Ext (fun x => x = rb ∨ (x = nb ∧ nc ≠ .nil)) H G → RxO (rb + 1) G nb1 nn1 nc1 rs1 → ((nb1 = nb ∧ nc1 = nc) ∨ H.length ≤ nb1) → (∀ x ∈ blksOf rs1, x ∈ blksOf rs ∨ H.length ≤ x) →
      rs1.length + 2 ≤ rs.length + 2 ^ (deep + 1) → RawOk (rb + 1) G r → (∀ x ∈ r.blks, H.length ≤ x ∧ x ∉ blksOf rs1 ∧ (nc1 ≠ .nil → x ≠ nb1)) → r.blks.Nodup →
      app (G ++ [.cells r.cells false]) 5 72 nb1 0 nn1 nc1 1 r.cells fun b i n c H1 => GrowPost rb H nb nc rs deep (.sl b i n c) H1 := by
    intro G nb1 nn1 nc1 rs1 r hrG hE hO hnb hbl hl hrw hf hnd
    have hGl := hE.1
    refine hO.push hrw (fun x hx => (hf x hx).2) hnd (by omega) (by omega) fun H' hO' hE' => ?_
    refine ⟨_, _, _, _, rfl, hO', by simp, by simp; omega, by omega, fun x hx => ?_, hrG.keep hE' (fun x h1 h2 => by omega), hE.new (hE'.mono fun x _ hx => ?_)⟩
    · obtain ⟨q, hq, hxq⟩ := List.mem_flatMap.1 hx
      rcases List.mem_append.1 hq with hq | hq
      · exact hbl x (List.mem_flatMap.2 ⟨q, hq, hxq⟩)
      · have : q = r := by simpa using hq
        subst this
        exact .inr (hf x hxq).1
    · obtain ⟨h1, rfl, h3⟩ := hx
      rcases hnb with ⟨rfl, rfl⟩ | h
      · exact .inl (.inr ⟨rfl, h3⟩)
      · exact .inr h
  have J1 : ∀ (op : Int) (G0 : AH), (deep = 0 → op = 1 ∨ op = 2) → Drew H rb G0 → J_spec_l1Rd_grow_1 D (fun v H' => GrowPost rb H nb nc rs deep v H') [(2, .int .i64 deep), (7, .int .i64 op), (0, .ptr rb 0), (1, .sl nb 0 nn nc)] G0 := by
    intro op G0 hop hd0
    have l0 := hd0.2.1
    rw [J_spec_l1Rd_grow_1_eq hD]
    refine stAll (get_new _ _) rfl ?_
    generalize hG : (G0 ++ [Blk.cells [V.int .i64 0, .sl 0 0 0 .nil, .sl 0 0 0 .nil, .int .i64 0, .int .i64 0] false]).set G0.length (.cells [V.int .i64 op, .sl 0 0 0 .nil, .sl 0 0 0 .nil, .int .i64 0, .int .i64 0] false) = G
    have hEG : Ext0 G0 G := by rw [← hG]; exact (Ext.app (fun _ => False) _ _).new (Ext.set _ _ _ (.inr (Nat.le_refl _)))
    have hN : G[G0.length]? = some (.cells [V.int .i64 op, .sl 0 0 0 .nil, .sl 0 0 0 .nil, .int .i64 0, .int .i64 0] false) := by rw [← hG]; exact get_set _ (by simp)
    have lG : G.length = G0.length + 1 := by rw [← hG]; simp
    generalize hNl : G0.length = N at hN lG l0 ⊢
    have hdG := hd0.ext0 hEG
    refine splE (fun h2 => ?_) (fun h2 => ?_)
    · -- a set
      let S (G : AH) : Prop := Drew H rb G ∧ ∃ b n cp, ∃ c : Cls, G[N]? = some (.cells [V.int .i64 op, .sl b 0 n cp, .sl 0 0 0 .nil, .int .i64 0, .int .i64 0] false) ∧ Own (N + 1) 2 G b n cp (c.flatMap spanV)
      have stS : ∀ (G : AH) (b n : Nat) (cp : Cap) (c : Cls), S G → Own (N + 1) 2 G b n cp (c.flatMap spanV) → ∀ K : AH → Prop, (∀ G', S G' → K G') → stK G N 1 [.sl b 0 n cp] K := by
        rintro G b n cp c ⟨hd, b0, n0, cp0, c0, hN0, hO0⟩ hO K hK
        refine stI hN0 (by simp) (hK _ ⟨hd.new hlt (Ext.set (X := fun x => x = N) _ _ _ rfl) (by omega), b, n, cp, c, get_set _ (get_lt hN0), hO.keep (Ext.set (X := fun x => x = N) _ _ _ rfl) (by omega)⟩)
      have dS : ∀ (G G' : AH), S G → Drew G rb G' → S G' := by
        rintro G G' ⟨hd, b0, n0, cp0, c0, hN0, hO0⟩ hd'
        exact ⟨hd.trans hd', b0, n0, cp0, c0, hd'.2.get hN0 (by omega), hO0.keep hd'.2 (by omega)⟩
      have J5 : ∀ G, S G → J_spec_l1Rd_grow_5 D (fun v H' => GrowPost rb H nb nc rs deep v H') [(1, .sl nb 0 nn nc), (8, .ptr N 0)] G := by
        rintro G ⟨hd, b, n, cp, c, hN, hO⟩
        rw [J_spec_l1Rd_grow_5_eq hD]
        refine ldInt (cell_of (i := 0) hN rfl) (ldSl (cell_of (i := 1) hN rfl) (ldSl (cell_of (i := 2) hN rfl) (ldInt (cell_of (i := 3) hN rfl) (ldInt (cell_of (i := 4) hN rfl) (cellsNew rfl ?_)))))
        obtain ⟨rfl, hrow⟩ := ownSet hO
        have hbl : ∀ x ∈ (Raw.mk op b 0 cp 0 0 .nil 0 0 c []).blks, N + 1 ≤ x := fun x hx => by
          rcases Raw.mem_blks hx with ⟨h1, rfl⟩ | ⟨h1, rfl⟩
          · exact hO.ge (by intro h; exact h1 (List.length_eq_zero_iff.1 h))
          · exact absurd rfl h1
        refine tail G nb nn nc rs ⟨op, b, 0, cp, 0, 0, .nil, 0, 0, c, []⟩ hd.1 (hd.2.mono fun x _ h => .inl h) (hx.keep hd.2 (fun hc => ?_) fun x hxb => by have := hx.lt hxb; omega) (.inl ⟨rfl, rfl⟩) (fun x hx => .inl hx) (by omega)
          ⟨hrow.mono fun x h => ⟨by omega, h.2⟩, Own.nil _ _ _⟩ (fun x hxb => ⟨by have := hbl x hxb; omega, fun hm => by have := hx.lt hm; have := hbl x hxb; have := hNl; have := hd0.2.1; omega, fun hc he => ?_⟩) ?_
        · intro he
          rcases hx.own.2 with ⟨h1, _⟩ | ⟨h1, _⟩
          · exact hc h1
          · omega
        · have := hbl x hxb
          rcases hx.own.2 with ⟨h1, _⟩ | ⟨_, h1, _⟩
          · exact hc h1
          · have := get_lt h1; omega
        · unfold Raw.blks; cases c <;> simp
      have J4 : ∀ G, S G → J_spec_l1Rd_grow_4 D (fun v H' => GrowPost rb H nb nc rs deep v H') [(0, .ptr rb 0), (1, .sl nb 0 nn nc), (8, .ptr N 0)] G := by
        intro G hS
        rw [J_spec_l1Rd_grow_4_eq hD]
        refine (c_once hS.1.1).use ?_
        rintro _ G1 ⟨⟨t, rfl⟩, hd1⟩
        have hS1 := dS _ _ hS hd1
        refine asBoolI (spl (fun _ => ?_) (fun _ => J5 _ hS1))
        obtain ⟨hdd, b, n, cp, c, hN1, hO1⟩ := hS1
        refine ldSl (cell_of (i := 1) hN1 rfl) ((c_specOthers (ownSet hO1).2).use ?_)
        rintro _ G2 ⟨b2, n2, cp2, rfl, hO2, hE2⟩
        have lN := get_lt hN1
        have hS2 : S G2 := ⟨hdd.ext0 hE2, b, n, cp, c, hE2.get hN1 id, hO1.keep hE2 (fun _ => id)⟩
        exact asSlI (stS G2 _ _ _ _ hS2 (hO2.lower (by omega)) _ fun G' hS' => J5 _ hS')
      have hd1 := hdG.ext0 (Ext.app (fun _ => False) G [Blk.cells [V.str [97], V.str [98], V.str [99], V.str [97, 98], V.str [97, 98, 99], V.str [120], V.str [10], V.str [45], V.str [122, 57]] false])
      refine (c_below hd1.1).use ?_
      rintro _ G2 ⟨⟨x, rfl, x0, x1⟩, hd2⟩
      have hst := hd2.2.get (get_new G (Blk.cells [V.str [97], V.str [98], V.str [99], V.str [97, 98], V.str [97, 98, 99], V.str [120], V.str [10], V.str [45], V.str [122, 57]] false)) (by omega)
      have hs : ∃ s : List UInt8, G2.cell G.length (0 + x.toNat * 1) = some (.str s) ∧ s.length ≤ 3 := by
        have hxc : x.toNat = 0 ∨ x.toNat = 1 ∨ x.toNat = 2 ∨ x.toNat = 3 ∨ x.toNat = 4 ∨ x.toNat = 5 ∨ x.toNat = 6 ∨ x.toNat = 7 ∨ x.toNat = 8 := by omega
        rcases hxc with e | e | e | e | e | e | e | e | e <;> rw [e] <;> exact ⟨_, cell_of hst rfl, by simp⟩
      obtain ⟨s, hs1, hs2⟩ := hs
      refine asIntI ⟨⟨by omega, by omega⟩, ldStr hs1 ((c_specClassOf (by omega)).use ?_)⟩
      rintro _ G3 ⟨b3, n3, cp3, rfl, hO3, hE3⟩
      have hN3 := hE3.get (hd2.2.get ((Ext.app (fun _ => False) G _).get hN id) (by omega)) id
      have hd3 : Drew H rb G3 := (hd1.trans hd2).ext0 hE3
      have l2 := hd2.2.1
      simp at l2
      have hS3 : S G3 := ⟨hd3, 0, 0, .nil, [], hN3, Own.nil _ _ _⟩
      refine asSlI (stS G3 _ _ _ _ hS3 (hO3.lower (by omega)) _ fun G4 hS4 => ?_)
      refine (c_once hS4.1.1).use ?_
      rintro _ G5 ⟨⟨t, rfl⟩, hd5⟩
      have hS5 := dS _ _ hS4 hd5
      refine asBoolI (spl (fun _ => ?_) (fun _ => J4 _ hS5))
      refine (c_drawClass hS5.1.1).use ?_
      rintro _ G6 ⟨⟨c6, ⟨b6, n6, cp6, rfl, hO6⟩, hc6⟩, hd6⟩
      have hS6 := dS _ _ hS5 hd6
      have l5 : N + 1 ≤ G5.length := by obtain ⟨_, _, _, _, _, h, _⟩ := hS5; exact get_lt h
      exact asSlI (splD (fun _ => stS G6 _ _ _ _ hS6 (hO6.lower (by omega)) _ fun G' hS' => J4 _ hS') (fun _ => J4 _ hS6))
    · -- kids
      rw [J_spec_l1Rd_grow_3_eq hD]
      have hxG : RxO (rb + 1) G nb nn nc rs := hx.keep hdG.2 (fun hc he => by
        rcases hx.own.2 with ⟨h1, _⟩ | ⟨h1, _⟩
        · exact hc h1
        · omega) fun x hxb => by have := hx.lt hxb; omega
      refine loopUp (σ := (Nat × Nat × Cap × List Raw) × (Nat × Nat × Cap × List Int)) (kidsN op) (fun k s => [(1, .sl s.1.1 0 s.1.2.1 s.1.2.2.1), (10, .int .i64 k), (7, .int .i64 op), (0, .ptr rb 0), (2, .int .i64 deep), (8, .ptr N 0)])
        (fun k s G => Rd G rb ∧ Ext (fun x => x = rb ∨ (x = nb ∧ nc ≠ .nil)) H G ∧ RxO (rb + 1) G s.1.1 s.1.2.1 s.1.2.2.1 s.1.2.2.2 ∧ ((s.1.1 = nb ∧ s.1.2.2.1 = nc) ∨ H.length ≤ s.1.1) ∧ (∀ x ∈ blksOf s.1.2.2.2, x ∈ blksOf rs ∨ H.length ≤ x) ∧
          s.1.2.2.2.length + k ≤ rs.length + k * 2 ^ deep ∧ G[N]? = some (.cells [V.int .i64 op, .sl 0 0 0 .nil, .sl s.2.1 0 s.2.2.1 s.2.2.2.1, .int .i64 0, .int .i64 0] false) ∧ Own (N + 1) 1 G s.2.1 s.2.2.1 s.2.2.2.1 (s.2.2.2.2.map vI) ∧ s.2.2.2.2.length = k ∧
          N ∉ blksOf s.1.2.2.2 ∧ (s.1.2.2.1 ≠ .nil → N ≠ s.1.1) ∧ (s.2.2.2.1 ≠ .nil → s.2.1 ∉ blksOf s.1.2.2.2 ∧ (s.1.2.2.1 ≠ .nil → s.2.1 ≠ s.1.1)))
        ((nb, nn, nc, rs), (0, 0, .nil, [])) rfl ⟨hdG.1, hdG.2.mono fun x _ h => .inl h, hxG, .inl ⟨rfl, rfl⟩, fun x h => .inl h, by simp only; omega, hN, Own.nil _ _ _, rfl, fun hm => by have := hx.lt hm; omega, fun hc he => by
          simp only at he hc
          rcases hx.own.2 with ⟨h1, _⟩ | ⟨_, h1, _⟩
          · exact hc h1
          · have := get_lt h1; omega, fun h => absurd rfl h⟩ ?_
      rintro k ⟨⟨nb1, nn1, nc1, rs1⟩, ⟨kb, kn, kc, ks⟩⟩ G1 hk ⟨hr1, hE1, hx1, hnb1, hbl1, hlen1, hN1, hK1, hks, hNo, hNn, hkb⟩
      simp only at hx1 hnb1 hbl1 hlen1 hN1 hK1 hks hNo hNn hkb ⊢
      have lN1 := get_lt hN1
      rw [L_spec_l1Rd_grow_7_eq hD]
      refine (c_l3Kids _ _).use ?_
      rintro _ G1 ⟨rfl, rfl⟩
      refine asIntI (splD (fun h => ?_) (fun h => ?_))
      · have hkk : k < kidsN op := by omega
        have hdeep : deep ≠ 0 := fun h0 => by
          rcases hop h0 with h | h <;> rw [h] at hkk <;> simp [kidsN] at hkk
        obtain ⟨d, hd⟩ : ∃ d, d + 1 = deep := ⟨deep - 1, by omega⟩
        have hdp : 2 ^ (d + 1) = 2 ^ deep := by rw [hd]
        have hk1 : k ≤ 1 := by have := kidsN_le op; omega
        have hpow : 2 ^ (deep + 1) = 2 * 2 ^ deep := by rw [Nat.pow_succ]; omega
        have hkm : k * 2 ^ deep ≤ 2 ^ deep := by rcases (show k = 0 ∨ k = 1 by omega) with h | h <;> rw [h] <;> omega
        rw [J_spec_l1Rd_grow_8_eq hD, show IntKind.i64.wrap ((deep : Int) - 1) = ((d : Nat) : Int) by rw [w64 (by omega) (by omega)]; omega]
        refine (ih d hd G1 rb nb1 nn1 nc1 rs1 hr1 hx1 (by omega)).use ?_
        rintro _ G2 ⟨nb2, nn2, nc2, rs2, rfl, hx2, hne2, hlen2, hnb2, hbl2, hr2, hE2⟩
        have hN2 := hE2.get hN1 (by intro h; rcases h with h | ⟨h, h'⟩; omega; exact hNn h' h)
        have hK2 := hK1.keep' hE2 (by
          intro hc h
          rcases h with h | ⟨h, h'⟩
          · rcases hK1.2 with ⟨q, _⟩ | ⟨q, _⟩
            · exact hc q
            · omega
          · exact (hkb hc).2 h' h)
        have hnn2 := hx2.len
        have lkb : kc ≠ .nil → kb < G1.length := fun hc => by
          rcases hK1.2 with ⟨q, _⟩ | ⟨_, q, _⟩
          · exact absurd q hc
          · exact get_lt q
        have hkb2 : kc ≠ .nil → kb ∉ blksOf rs2 ∧ kb ≠ nb2 := fun hc => ⟨fun hm => by
          rcases hbl2 _ hm with h | h
          · exact (hkb hc).1 h
          · have := lkb hc; omega, by have := lkb hc; omega⟩
        refine asSlI (ldSl (cell_of (i := 2) hN2 rfl) (cellsNew rfl ?_))
        have l2 := hE2.1
        have hK3 : Own (N + 1) 1 (G2 ++ [Blk.cells [V.int .i64 (IntKind.i64.wrap ((nn2 : Int) - 1))] false]) kb kn kc (ks.map vI) := hK2.keep (Ext.app (fun _ => False) _ _) (fun _ => id)
        have hkn : kn = ks.length := by have := hK3.len; simp at this; omega
        refine hK3.push (m := 1) rfl (by omega) (by omega) (by omega) (by omega) (by simp; omega) fun G3 hK4 hl3 hE3 => ?_
        have l3 : (G2 ++ [Blk.cells [V.int .i64 (IntKind.i64.wrap ((nn2 : Int) - 1))] false]).length = G2.length + 1 := by simp
        rw [l3] at hK4 hl3 ⊢
        have hE23 : Ext (fun x => N + 1 ≤ x ∧ x = kb ∧ kc ≠ .nil) G2 G3 := (Ext.app _ _ _).trans hE3
        have hN3 := hE23.get hN2 (by omega)
        refine stI hN3 (by simp) ?_
        rw [J_spec_l1Rd_grow_9_eq hD, inc (by omega)]
        have hE34 : ∀ B, Ext (fun x => x = N) G3 (G3.set N B) := fun B => Ext.set _ _ _ rfl
        have hlN : rb + 1 ≤ N := by omega
        refine nxt ((nb2, nn2, nc2, rs2), (G2.length + 1, kn + 1, .toEnd 1, ks ++ [IntKind.i64.wrap ((nn2 : Int) - 1)])) hkk rfl ⟨(hr2.keep hE23 (fun x h1 h2 => by omega)).keep (hE34 _) (by omega), ?_, ?_, .inr (by simp only; have := hE1.1; omega), ?_, ?_, ?_, ?_, ?_, ?_, ?_, ?_⟩
        · refine ((hE1.new (hE2.mono fun x _ h => ?_)).new (hE23.mono fun x _ h => .inr (by omega))).new ((hE34 _).mono fun x _ h => .inr (by omega))
          rcases h with h | ⟨h, h'⟩
          · exact .inl (.inl h)
          · rcases hnb1 with ⟨a, b⟩ | h1
            · exact .inl (.inr ⟨by rw [h, a], by rw [← b]; exact h'⟩)
            · exact .inr (by omega)
        · refine (hx2.keep hE23 (fun _ h => ?_) fun x hxb h => ?_).keep (hE34 _) (fun _ h => by omega) fun x hxb h => ?_
          · exact (hkb2 h.2.2).2 h.2.1.symm
          · exact (hkb2 h.2.2).1 (h.2.1 ▸ hxb)
          · subst h
            rcases hbl2 _ hxb with h | h
            · exact hNo h
            · omega
        · intro x hxb
          rcases hbl2 x hxb with h | h
          · exact hbl1 x h
          · exact .inr (by have := hE1.1; omega)
        · simp only
          have : (k + 1) * 2 ^ deep = k * 2 ^ deep + 2 ^ deep := by rw [Nat.succ_mul]
          omega
        · exact get_set _ (get_lt hN3)
        · have := hK4.keep (hE34 (.cells [V.int .i64 op, .sl 0 0 0 .nil, .sl (G2.length + 1) 0 (kn + 1) (.toEnd 1), .int .i64 0, .int .i64 0] false)) (by omega)
          simp only [List.map_append]
          exact this
        · simp; exact hks
        · simp only
          intro hm
          rcases hbl2 _ hm with h | h
          · exact hNo h
          · omega
        · simp only; intro _; omega
        · intro _
          simp only
          refine ⟨fun hm => by have := (hx2.lt hm).2; omega, fun hc he => ?_⟩
          rcases hx2.own.2 with ⟨q, _⟩ | ⟨_, q, _⟩
          · exact hc q
          · have := get_lt q; omega
      · -- all kids are there
        have hkk : k = kidsN op := by omega
        have hpow : 2 ^ (deep + 1) = 2 * 2 ^ deep := by rw [Nat.pow_succ]; omega
        have hp1 : 1 ≤ 2 ^ deep := Nat.one_le_two_pow
        have hrl : rs1.length + 2 ≤ rs.length + 2 ^ (deep + 1) := by
          have := kidsN_le op
          rcases (show k = 0 ∨ k = 1 ∨ k = 2 by omega) with h | h | h <;> rw [h] at hlen1 <;> omega
        let S (G : AH) : Prop := Rd G rb ∧ Ext (fun x => x = rb ∨ x = N) G1 G ∧ ∃ mn mx, G[N]? = some (.cells [V.int .i64 op, .sl 0 0 0 .nil, .sl kb 0 kn kc, .int .i64 mn, .int .i64 mx] false)
        have hlN : rb + 1 ≤ N := by omega
        have dS : ∀ G G', S G → Drew G rb G' → S G' := by
          rintro G G' ⟨h1, h2, mn, mx, h3⟩ hd
          exact ⟨hd.1, h2.trans (hd.2.mono fun x _ h => .inl h), mn, mx, hd.2.get h3 (by omega)⟩
        have J10 : ∀ G, S G → J_spec_l1Rd_grow_10 D (fun v H' => GrowPost rb H nb nc rs deep v H') [(1, .sl nb1 0 nn1 nc1), (8, .ptr N 0)] G := by
          rintro G ⟨h1, h2, mn, mx, h3⟩
          rw [J_spec_l1Rd_grow_10_eq hD]
          refine ldInt (cell_of (i := 0) h3 rfl) (ldSl (cell_of (i := 1) h3 rfl) (ldSl (cell_of (i := 2) h3 rfl) (ldInt (cell_of (i := 3) h3 rfl) (ldInt (cell_of (i := 4) h3 rfl) (cellsNew rfl ?_)))))
          have hkbl : ∀ x ∈ (Raw.mk op 0 0 .nil kb kn kc mn mx [] ks).blks, kc ≠ .nil ∧ x = kb ∧ N + 1 ≤ x := fun x hx => by
            rcases Raw.mem_blks hx with ⟨h1, rfl⟩ | ⟨h1, rfl⟩
            · exact absurd rfl h1
            · refine ⟨h1, rfl, ?_⟩
              rcases hK1.2 with ⟨q, _⟩ | ⟨q, _⟩
              · exact absurd q h1
              · exact q
          refine tail G nb1 nn1 nc1 rs1 ⟨op, 0, 0, .nil, kb, kn, kc, mn, mx, [], ks⟩ h1 (hE1.new (h2.mono fun x _ h => ?_)) (hx1.keep h2 (fun hc h => ?_) fun x hxb h => ?_) hnb1 hbl1 hrl ⟨IsRow.nil, (hK1.keep' h2 fun hc h => ?_).lower (by omega)⟩ (fun x hxb => ?_) ?_
          · rcases h with h | h
            · exact .inl (.inl h)
            · exact .inr (by omega)
          · rcases h with h | h
            · rcases hx1.own.2 with ⟨q, _⟩ | ⟨q, _⟩
              · exact hc q
              · omega
            · exact hNn hc h.symm
          · rcases h with h | h
            · have := hx1.lt hxb; omega
            · exact hNo (h ▸ hxb)
          · rcases hK1.2 with ⟨q, _⟩ | ⟨q, _⟩
            · exact hc q
            · omega
          · obtain ⟨q1, rfl, q3⟩ := hkbl x hxb
            exact ⟨by omega, (hkb q1).1, (hkb q1).2⟩
          · unfold Raw.blks; cases kc <;> simp
        have J11 : ∀ G, S G → J_spec_l1Rd_grow_11 D (fun v H' => GrowPost rb H nb nc rs deep v H') [(0, .ptr rb 0), (1, .sl nb1 0 nn1 nc1), (8, .ptr N 0)] G := by
          intro G hS
          rw [J_spec_l1Rd_grow_11_eq hD]
          refine (c_once hS.1).use ?_
          rintro _ G2 ⟨⟨t, rfl⟩, hd⟩
          have hS2 := dS _ _ hS hd
          refine asBoolI (spl (fun _ => ?_) (fun _ => J10 _ hS2))
          obtain ⟨h1, h2, mn, mx, h3⟩ := hS2
          exact stI h3 (by simp) (J10 _ ⟨h1.keep (Ext.set (X := fun x => x = N) _ _ _ rfl) (by omega), h2.trans (Ext.set _ _ _ (.inr rfl)), mn, 30, get_set _ (get_lt h3)⟩)
        have J12 : ∀ (b : Bool) G, S G → J_spec_l1Rd_grow_12 D (fun v H' => GrowPost rb H nb nc rs deep v H') [(87, .bool b), (0, .ptr rb 0), (1, .sl nb1 0 nn1 nc1), (8, .ptr N 0)] G := by
          intro b G hS
          rw [J_spec_l1Rd_grow_12_eq hD]
          refine spl (fun _ => ?_) (fun _ => J11 _ hS)
          obtain ⟨h1, h2, mn, mx, h3⟩ := hS
          exact stI h3 (by simp) (J11 _ ⟨h1.keep (Ext.set (X := fun x => x = N) _ _ _ rfl) (by omega), h2.trans (Ext.set _ _ _ (.inr rfl)), mn, -1, get_set _ (get_lt h3)⟩)
        have hS1 : S G1 := ⟨hr1, Ext.refl _ _, 0, 0, hN1⟩
        rw [J_spec_l1Rd_grow_6_eq hD]
        refine splE (fun h8 => ?_) (fun h8 => J10 _ hS1)
        refine (c_below hS1.1).use ?_
        rintro _ G2 ⟨⟨x, rfl, -⟩, hd2⟩
        obtain ⟨a1, a2, mn, mx, a3⟩ := dS _ _ hS1 hd2
        refine asIntI (stI a3 (by simp) ?_)
        generalize hT : G2.set N (.cells ([V.int .i64 op, .sl 0 0 0 .nil, .sl kb 0 kn kc, .int .i64 mn, .int .i64 mx].set (0 + 3) (.int .i64 x)) false) = T
        have hTN : T[N]? = some (.cells [V.int .i64 op, .sl 0 0 0 .nil, .sl kb 0 kn kc, .int .i64 x, .int .i64 mx] false) := by rw [← hT]; exact get_set _ (get_lt a3)
        have hET : Ext (fun y => y = N) G2 T := by rw [← hT]; exact Ext.set _ _ _ rfl
        have hST : S T := ⟨a1.keep hET (by omega), a2.trans (hET.mono fun y _ h => .inr h), x, mx, hTN⟩
        refine ldInt (cell_of (i := 3) hTN rfl) ((c_below hST.1).use ?_)
        rintro _ G3 ⟨⟨y, rfl, -⟩, hd3⟩
        have h3N := hd3.2.get hTN (by omega)
        obtain ⟨b1, b2, _⟩ := dS _ _ hST hd3
        refine asIntI ⟨cell_of (i := 3) h3N rfl, stI h3N (by simp) ?_⟩
        generalize hU : G3.set N (.cells ([V.int .i64 op, .sl 0 0 0 .nil, .sl kb 0 kn kc, .int .i64 x, .int .i64 mx].set (0 + 4) (.int .i64 (IntKind.i64.wrap (x + y)))) false) = U
        have hUN : U[N]? = some (.cells [V.int .i64 op, .sl 0 0 0 .nil, .sl kb 0 kn kc, .int .i64 x, .int .i64 (IntKind.i64.wrap (x + y))] false) := by rw [← hU]; exact get_set _ (get_lt h3N)
        have hEU : Ext (fun y => y = N) G3 U := by rw [← hU]; exact Ext.set _ _ _ rfl
        have hSU : S U := ⟨b1.keep hEU (by omega), b2.trans (hEU.mono fun y _ h => .inr h), x, _, hUN⟩
        refine ldInt (cell_of (i := 4) hUN rfl) (splE (fun _ => J12 true _ hSU) (fun _ => (c_once hSU.1).use ?_))
        rintro _ G4 ⟨⟨t, rfl⟩, hd4⟩
        exact asBoolI (J12 t _ (dS _ _ hSU hd4))
  have J2 : ∀ (b : Bool) (op : Int) (G0 : AH), (deep = 0 → b = true) → Drew H rb G0 → J_spec_l1Rd_grow_2 D (fun v H' => GrowPost rb H nb nc rs deep v H') [(18, .bool b), (7, .int .i64 op), (2, .int .i64 deep), (0, .ptr rb 0), (1, .sl nb 0 nn nc)] G0 := by
    intro b op G0 hb hd
    rw [J_spec_l1Rd_grow_2_eq hD]
    refine spl (fun h => (c_once hd.1).use ?_) (fun h => J1 op G0 (fun h0 => by rw [hb h0] at h; cases h) hd)
    rintro _ G1 ⟨⟨t, rfl⟩, hd1⟩
    exact asBoolI (spl (fun _ => J1 _ _ (fun _ => .inl rfl) (hd.trans hd1)) (fun _ => J1 _ _ (fun _ => .inr rfl) (hd.trans hd1)))
  refine (c_near hr (by omega) (by omega) (by omega) (by omega)).use ?_
  rintro _ G0 ⟨⟨op, rfl⟩, hd⟩
  refine asIntI (splE (fun h => J2 true op _ (fun _ => rfl) hd) (fun h => (c_once hd.1).use ?_))
  rintro _ G1 ⟨⟨t, rfl⟩, hd1⟩
  exact asBoolI (J2 t op _ (fun h0 => by omega) (hd.trans hd1))

theorem c_grow : ∀ (deep : Nat), deep ≤ 8 → ∀ (H : AH) (rb nb nn : Nat) (nc : Cap) (rs : List Raw), Rd H rb → RxO (rb + 1) H nb nn nc rs → rs.length + 2 ^ (deep + 1) ≤ 100000 →
    CallsA prog spec_l1Rd_grow [.ptr rb 0, .sl nb 0 nn nc, .int .i64 deep] H fun v H' => GrowPost rb H nb nc rs deep v H' := by
  intro deep
  induction deep with
  | zero => exact fun h => grow_step 0 h fun d hd => absurd hd (by omega)
  | succ d ih =>
    intro h
    refine grow_step (d + 1) h fun e he => ?_
    obtain rfl : e = d := by omega
    exact ih (by omega)

end Go.Proofs.YtpjkammmoaeheaaDoor.Aw

/- Contracts: a drawn expression, right or odd. -/
set_option linter.unusedSimpArgs false
set_option linter.unusedVariables false
set_option maxRecDepth 10000
namespace Go.Proofs.YtpjkammmoaeheaaDoor.Aw
open Go Go.RowKit

theorem RawOk.raise {n0 m0 : Nat} {H : AH} {r : Raw} (h : RawOk n0 H r) (hx : ∀ x ∈ r.blks, m0 ≤ x) : RawOk m0 H r := by
  obtain ⟨⟨b, i, c, e, h1, h2, h3⟩, h4, h5⟩ := h
  refine ⟨⟨b, i, c, e, h1, fun hs => ?_, h3⟩, h4, h5.imp id fun ⟨q1, q2, q3⟩ => ⟨hx _ (Raw.kb_mem (by intro hc; rw [hc] at q3; rcases q3 with q | q <;> cases q)), q2, q3⟩⟩
  cases e
  exact ⟨hx _ (Raw.sb_mem hs), rfl⟩
theorem RxO.raise {n0 m0 nb nn : Nat} {H : AH} {nc : Cap} {rs : List Raw} (h : RxO n0 H nb nn nc rs) (hn : m0 ≤ nb) (hx : ∀ x ∈ blksOf rs, m0 ≤ x) : RxO m0 H nb nn nc rs :=
  ⟨⟨h.own.1, h.own.2.imp id fun ⟨_, q⟩ => ⟨hn, q⟩⟩, fun r hr => (h.raw r hr).raise fun x hxb => hx x (List.mem_flatMap.2 ⟨r, hr, hxb⟩), h.out, h.nodup⟩
theorem RxO.lower {n0 m0 nb nn : Nat} {H : AH} {nc : Cap} {rs : List Raw} (h : RxO n0 H nb nn nc rs) (hm : m0 ≤ n0) : RxO m0 H nb nn nc rs :=
  ⟨h.own.lower hm, fun r hr => (h.raw r hr).raise fun x hxb => Nat.le_trans hm ((h.raw r hr).lt hxb).1, h.out, h.nodup⟩

/-- A node's parts lie in blocks of 'F'. -/
def RawW (F : Nat → Prop) (H : AH) (r : Raw) : Prop := r.kn = r.kids.length ∧ IsSpans F H (.sl r.sb r.si r.set.length r.sc) r.set ∧ IsInts F H (.sl r.kb 0 r.kn r.kc) r.kids
theorem RawOk.w {n0 : Nat} {H : AH} {r : Raw} {F : Nat → Prop} (h : RawOk n0 H r) (hF : ∀ x ∈ r.blks, F x) : RawW F H r := by
  obtain ⟨h1, h2⟩ := h
  have hk : r.kn = r.kids.length := by have := h2.len; simp at this; omega
  refine ⟨hk, ?_, ?_⟩
  · obtain ⟨b, i, c, e, q1, q2, q3⟩ := h1
    cases e
    exact ⟨_, _, _, rfl, q1, fun hs => hF _ (Raw.sb_mem hs), q3⟩
  · have hrow := h2.row1
    obtain ⟨b, i, c, e, q1, q2, q3⟩ := hrow
    injection e with e1 e2 e3 e4
    subst e1 e2 e4
    rw [hk]
    refine ⟨_, _, _, rfl, q1, fun hs => ?_, q3⟩
    rcases h2.2 with ⟨_, q, _⟩ | ⟨_, _, q⟩
    · rw [hk] at q; exact absurd (List.length_eq_zero_iff.1 q) hs
    · exact hF _ (Raw.kb_mem (by intro hc; rw [hc] at q; rcases q with q | q <;> cases q))
theorem RawW.keep {F X : Nat → Prop} {H H' : AH} {r : Raw} (h : RawW F H r) (he : Ext X H H') (hx : ∀ x, F x → ¬ X x) : RawW F H' r :=
  ⟨h.1, IsRow.keep h.2.1 (loc_e2 _) (he.agree hx), IsRow.keep h.2.2 (loc_e1 _ _) (he.agree hx)⟩

theorem nodesOf {F : Nat → Prop} {H : AH} {nb nn : Nat} {nc : Cap} {rs : List Raw} {ro : Bool} (hB : H[nb]? = some (.cells (rs.flatMap Raw.cells) ro)) (hF : F nb) (hn : nn = rs.length) (hb : rs.length ≤ 140737488355328) (hr : ∀ r ∈ rs, RawW F H r) : IsNodes F H (.sl nb 0 nn nc) (rs.map Raw.nd) := by
  subst hn
  refine ⟨nb, 0, nc, by rw [List.length_map], by rw [List.length_map]; exact hb, fun _ => hF, fun k nd hk => ?_⟩
  rw [List.getElem?_map] at hk
  cases hr' : rs[k]? with
  | none => rw [hr'] at hk; simp at hk
  | some r =>
    rw [hr'] at hk
    simp at hk
    subst hk
    have hc : ∀ t v, t < 5 → r.cells[t]? = some v → H.cell nb (0 + k * 5 + t) = some v := fun t v ht hv => cell_of hB (by rw [Nat.zero_add, flat2 (f := Raw.cells) (n := 5) (fun _ => rfl) rs k r t hr' ht, hv])
    obtain ⟨h1, h2, h3⟩ := hr r (List.mem_of_getElem? hr')
    exact ⟨_, _, hc 0 _ (by omega) rfl, hc 1 _ (by omega) rfl, hc 2 _ (by omega) rfl, hc 3 _ (by omega) rfl, hc 4 _ (by omega) rfl, h2, h3⟩

theorem RxO.nodes {F : Nat → Prop} {n0 nb nn : Nat} {H : AH} {nc : Cap} {rs : List Raw} (h : RxO n0 H nb nn nc rs) (hF : ∀ x, n0 ≤ x → x < H.length → F x) : IsNodes F H (.sl nb 0 nn nc) (rs.map Raw.nd) := by
  have hn := h.len
  rcases h.own.2 with ⟨_, q, _⟩ | ⟨q1, q2, _⟩
  · have : rs = [] := List.length_eq_zero_iff.1 (by omega)
    subst this
    rw [q]
    exact IsRow.nil
  · exact nodesOf q2 (hF _ q1 (get_lt q2)) hn (by have := h.own.1.2; omega) fun r hr => (h.raw r hr).w fun x hx => hF _ ((h.raw r hr).lt hx).1 ((h.raw r hr).lt hx).2

theorem hasB_a : hasB [97] 97 = true := by decide
theorem rxA_ok : RxOk [⟨2, cls (hasB [97]), [], 0, 0⟩] := by
  refine ⟨by simp, by simp, ?_, ?_, ?_⟩
  · intro i n hn
    cases i with
    | zero =>
      simp at hn; subst hn
      exact ⟨by simp, by simp, by simp [kidsN], by simp, fun _ => ⟨cls_ok (hasB [97]), cls_ne (p := hasB [97]) (b := 97) (by omega) hasB_a⟩, fun h => absurd rfl h, fun h => by simp at h, fun _ => ⟨rfl, rfl⟩⟩
    | succ i => simp at hn
  · intro i hi; simp at hi
  · intro i hi
    have : i = 0 := by simpa using hi
    subst this
    exact Nat.zero_le _

theorem c_rx {H : AH} {rb deep : Nat} (hr : Rd H rb) (hd : deep ≤ 8) : CallsA prog spec_l1Rd_rx [.ptr rb 0, .int .i64 deep] H fun v H' =>
    ∃ nb nn nc rs, v = .agg [.sl nb 0 nn nc] ∧ RxO H.length H' nb nn nc rs ∧ RxOk (rs.map Raw.nd) ∧ Drew H rb H' := by
  have hlt := hr.lt
  refine spec_l1Rd_rx_in fun D hD => ?_
  rw [spec_l1Rd_rx_eq hD]
  have l1 : (H ++ [Blk.cells [V.sl 0 0 0 .nil] false]).length = H.length + 1 := by simp
  rw [l1]
  generalize hG : H ++ [Blk.cells [V.sl 0 0 0 .nil] false] ++ [Blk.cells [] false] = G
  have hEG : Ext0 H G := by rw [← hG]; exact (Ext.app _ _ _).trans (Ext.app _ _ _)
  have g0 : G[H.length]? = some (.cells [V.sl 0 0 0 .nil] false) := by rw [← hG, List.getElem?_append_left (by simp)]; exact get_new _ _
  have hx0 : RxO (rb + 1) G (H.length + 1) 0 (.ex 0) [] := ⟨by rw [← hG, ← l1]; exact Own.lit rfl (by simp; omega) (Nat.zero_le _), by simp, by simp, by simp⟩
  have hp : 2 ^ (deep + 1) ≤ 512 := by have := Nat.pow_le_pow_right (n := 2) (by omega) (show deep + 1 ≤ 9 by omega); simpa using this
  refine (c_grow deep hd G rb _ _ _ _ (hr.keep0 hEG) hx0 (by simp; omega)).use ?_
  rintro _ G1 ⟨nb, nn, nc, rs, rfl, hx1, hne, hlen, hnb, hbl, hr1, hE1⟩
  have hlG : G.length = H.length + 2 := by rw [← hG]; simp
  have hE1' : Ext (fun x => x = rb) H G1 := (hEG.of0 (X := fun x => x = rb)).new (hE1.mono fun x _ h => h.imp id fun h => by omega)
  have g1 := hE1.get g0 (by omega)
  refine asSlI (stAll (get_new _ _) rfl ?_)
  generalize hK : (G1 ++ [Blk.cells [V.sl 0 0 0 .nil] false]).set G1.length (.cells [V.sl nb 0 nn nc] false) = K
  have hEK : Ext0 G1 K := by rw [← hK]; exact (Ext.app (fun _ => False) _ _).new (Ext.set _ _ _ (.inr (Nat.le_refl _)))
  have k1 : K[G1.length]? = some (.cells [V.sl nb 0 nn nc] false) := by rw [← hK]; exact get_set _ (by simp)
  have hxK := (hx1.raise (m0 := H.length) (by omega) fun x hx => (hbl x hx).elim (fun h => by simp at h) fun h => by omega).keep hEK (fun _ => id) (fun _ _ => id)
  refine ldSl (cell_of (i := 0) k1 rfl) ((c_specRxOk (hxK.nodes (F := fun x => H.length ≤ x) fun x h _ => h)).use ?_)
  rintro _ L ⟨⟨t, rfl, ht⟩, hEL⟩
  have hEKL := hEK.trans hEL
  have hdL : Drew H rb L := ⟨hr1.keep0 hEKL, hE1'.trans hEKL.of0⟩
  have hl1 := hE1'.1
  have gl1 := get_lt g1
  refine asBoolI (splNot (fun h => ?_) (fun h => ?_))
  · refine (c_specClassOf (by simp)).use ?_
    rintro _ M ⟨b, n, cp, rfl, hO, hEM⟩
    obtain ⟨rfl, hrow⟩ := ownSet hO
    have m0 := hEM.get (hEKL.get g1 id) id
    refine asSlI (stAll (hEM.trans (Ext.app _ _ [Blk.cells [V.int .i64 2, .sl b 0 (cls (hasB [97])).length cp, .sl 0 0 0 .nil, .int .i64 0, .int .i64 0] false]) |>.get (hEKL.get g1 id) id) rfl ?_)
    generalize hT : (M ++ [Blk.cells [V.int .i64 2, .sl b 0 (cls (hasB [97])).length cp, .sl 0 0 0 .nil, .int .i64 0, .int .i64 0] false]).set H.length (.cells [V.sl M.length 0 1 (.ex 1)] false) = T
    have hET : Ext (fun x => x = H.length) M T := by rw [← hT]; exact (Ext.app _ _ _).trans (Ext.set _ _ _ rfl)
    have t0 : T[H.length]? = some (.cells [V.sl M.length 0 1 (.ex 1)] false) := by rw [← hT]; exact get_set _ (by have := hEM.1; have := hEKL.1; simp; omega)
    have hEL' := hEL.1
    have hlL : H.length + 2 ≤ L.length := by have := hEK.1; have := hE1.1; omega
    have tM : T[M.length]? = some (.cells [V.int .i64 2, .sl b 0 (cls (hasB [97])).length cp, .sl 0 0 0 .nil, .int .i64 0, .int .i64 0] false) := by
      rw [← hT, List.getElem?_set_ne (by have := hEM.1; omega)]; exact get_new _ _
    refine ldSl (cell_of (i := 0) t0 rfl) ⟨_, _, _, [⟨2, b, 0, cp, 0, 0, .nil, 0, 0, cls (hasB [97]), []⟩], rfl, ⟨⟨⟨rfl, by omega⟩, .inr ⟨by have := hEM.1; omega, tM, .inl rfl⟩⟩, ?_, ?_, ?_⟩, rxA_ok, (hdL.ext0 hEM).new hlt hET (by omega)⟩
    · intro r hr
      have : r = ⟨2, b, 0, cp, 0, 0, .nil, 0, 0, cls (hasB [97]), []⟩ := by simpa using hr
      subst this
      have hne : cls (hasB [97]) ≠ [] := cls_ne (b := 97) (by omega) hasB_a
      have hbge : L.length ≤ b := hO.ge (by intro h; exact hne (List.length_eq_zero_iff.1 h))
      exact ⟨(IsRow.keep hrow (loc_e2 _) (hET.agree fun x hx => by omega)).mono fun x hx => ⟨by omega, hx.2⟩, Own.nil _ _ _⟩
    · intro _ hm
      simp only [blksOf, List.flatMap_cons, List.flatMap_nil, List.append_nil] at hm
      have hbl : b < M.length := by
        rcases Raw.mem_blks hm with ⟨h1, h2⟩ | ⟨h1, h2⟩
        · simp only at h2
          obtain ⟨b', i', c', e, _, _, q3⟩ := hrow
          cases e
          cases hc : cls (hasB [97]) with
          | nil => exact absurd hc h1
          | cons s l => exact cell_lt (q3 0 s (by rw [hc]; rfl)).1
        · exact absurd rfl h1
      rcases Raw.mem_blks hm with ⟨h1, h2⟩ | ⟨h1, h2⟩
      · simp only at h2; omega
      · exact absurd rfl h1
    · simp only [blksOf, List.flatMap_cons, List.flatMap_nil, List.append_nil]
      unfold Raw.blks; simp only; cases cls (hasB [97]) <;> simp
  · rw [J_spec_l1Rd_rx_1_eq hD]
    refine ldSl (cell_of (i := 0) (hEL.get k1 id) rfl) (stAll (hEKL.get g1 id) rfl ?_)
    have hET : ∀ B, Ext (fun x => x = H.length) L (L.set H.length B) := fun B => Ext.set _ _ _ rfl
    have lL : H.length < L.length := by have := hEKL.1; omega
    refine ldSl (cell_of (i := 0) (get_set _ lL) rfl) ⟨nb, nn, nc, rs, rfl, ?_, ht.1 h, hdL.new hlt (hET _) (by omega)⟩
    refine (hxK.keep hEL (fun _ => id) (fun _ _ => id)).keep (hET _) (fun _ => by omega) fun x hx => ?_
    rcases hbl x hx with h | h
    · simp at h
    · omega

end Go.Proofs.YtpjkammmoaeheaaDoor.Aw

/- Contracts: a text that an expression matches is drawn. -/
set_option linter.unusedSimpArgs false
set_option linter.unusedVariables false
set_option maxRecDepth 10000
namespace Go.Proofs.YtpjkammmoaeheaaDoor.Aw
open Go Go.RowKit

theorem strNew1 {H : AH} {n : Int} {ro : Bool} {K : List UInt8 → Prop} (hk : K [UInt8.ofNat n.toNat]) : strK (H ++ [.cells [V.int .u8 n] ro]) H.length 0 1 K := by
  unfold strK
  have := (Cells.of_block (get_new H (Blk.cells [V.int .u8 n] ro))).cellsN
  simp only [List.length_singleton] at this
  rw [this]
  exact hk

theorem IsSpans.at {F : Nat → Prop} {H : AH} {b i n : Nat} {c : Cap} {l : Cls} (h : IsSpans F H (.sl b i n c) l) {k : Nat} {s : Int × Int} (hx : l[k]? = some s) : H.cell b (i + k * 2) = some (.int .i64 s.1) ∧ H.cell b (i + k * 2 + 1) = some (.int .i64 s.2) := by
  obtain ⟨b', i', c', e, -, -, h⟩ := h
  cases e
  exact h k s hx

theorem kidsN1 {op : Int} (h : op = 5 ∨ op = 6 ∨ op = 7 ∨ op = 8) : kidsN op = 1 := by
  unfold kidsN; rw [if_neg (by omega), if_pos (by omega)]
theorem kidsN2 {op : Int} (h : op = 3 ∨ op = 4) : kidsN op = 2 := by
  unfold kidsN; rw [if_pos h]

theorem one_kid {ks : List Int} (h : ks.length = 1) : ∃ z, ks = [z] := by
  match ks, h with
  | [z], _ => exact ⟨z, rfl⟩
theorem two_kids {ks : List Int} (h : ks.length = 2) : ∃ y z, ks = [y, z] := by
  match ks, h with
  | [y, z], _ => exact ⟨y, z, rfl⟩

theorem c_sample {F : Nat → Prop} {rb : Nat} {v : V} {x : List Nd} (hF : ∀ b, F b → b ≠ rb) (hok : ∀ i n, x[i]? = some n → NodeOk n i) (hxl : x.length ≤ 300) : ∀ (pl : Nat), pl < x.length → ∀ (H : AH) (deep : Int), Rd H rb → IsNodes F H v x → size x pl ≤ 1000 →
    CallsA prog spec_l1Rd_sample [.ptr rb 0, .agg [v], .int .i64 pl, .int .i64 deep] H fun r H' => (∃ s, r = .str s ∧ s.length ≤ 200 * size x pl) ∧ Drew H rb H' := by
  intro pl
  induction pl using Nat.strongRecOn with
  | _ pl ih =>
    intro hpl H deep hr hx hsz
    have hlt := hr.lt
    have hx0 := hx
    obtain ⟨xb, xi, xc, rfl, -⟩ := hx
    obtain ⟨nd, hnd⟩ : ∃ nd, x[pl]? = some nd := ⟨_, List.getElem?_eq_getElem hpl⟩
    have okn := hok pl nd hnd
    have hse := size_eq hok hnd
    obtain ⟨sb, si, sc, kb, ki, kc, c0, c1, c2, c3, c4, hset, hkids⟩ := (hx0.at hnd).read
    refine spec_l1Rd_sample_in fun D hD => ?_
    rw [spec_l1Rd_sample_eq hD]
    have hE0 : Ext0 H (H ++ [Blk.cells [V.sl xb xi x.length xc] false]) := Ext.app _ _ _
    have l1 : (H ++ [Blk.cells [V.sl xb xi x.length xc] false]).length = H.length + 1 := by simp
    rw [l1, tn]
    have hz : (H ++ [Blk.cells [V.sl xb xi x.length xc] false] ++ [Blk.cells [V.int .i64 0, .sl 0 0 0 .nil, .sl 0 0 0 .nil, .int .i64 0, .int .i64 0] false])[H.length + 1]? = some (.cells [V.int .i64 0, .sl 0 0 0 .nil, .sl 0 0 0 .nil, .int .i64 0, .int .i64 0] false) := by rw [← l1]; exact get_new _ _
    refine ldSl (cell_of (i := 0) (get_new _ _) rfl) ⟨⟨by omega, by omega⟩, ldInt (hE0.cell c0 id) (ldSl (hE0.cell c1 id) (ldSl (hE0.cell c2 id) (ldInt (hE0.cell c3 id) (ldInt (hE0.cell c4 id) (stAll hz rfl ?_)))))⟩
    generalize hG : (H ++ [Blk.cells [V.sl xb xi x.length xc] false] ++ [Blk.cells [V.int .i64 0, .sl 0 0 0 .nil, .sl 0 0 0 .nil, .int .i64 0, .int .i64 0] false]).set (H.length + 1) (.cells [V.int .i64 nd.op, .sl sb si nd.set.length sc, .sl kb ki nd.kids.length kc, .int .i64 nd.mn, .int .i64 nd.mx] false) = G
    have hEG : Ext0 H G := by rw [← hG]; exact ((Ext.app _ _ _).trans (Ext.app _ _ _)).new (Ext.set _ _ _ (.inr (by omega)))
    have gX : G[H.length]? = some (.cells [V.sl xb xi x.length xc] false) := by rw [← hG, List.getElem?_set_ne (by omega), List.getElem?_append_left (by simp)]; exact get_new _ _
    have gN : G[H.length + 1]? = some (.cells [V.int .i64 nd.op, .sl sb si nd.set.length sc, .sl kb ki nd.kids.length kc, .int .i64 nd.mn, .int .i64 nd.mx] false) := by rw [← hG]; exact get_set _ (by simp)
    let S (G : AH) : Prop := Drew H rb G ∧ G[H.length]? = some (.cells [V.sl xb xi x.length xc] false) ∧ G[H.length + 1]? = some (.cells [V.int .i64 nd.op, .sl sb si nd.set.length sc, .sl kb ki nd.kids.length kc, .int .i64 nd.mn, .int .i64 nd.mx] false) ∧
      IsNodes F G (.sl xb xi x.length xc) x ∧ IsSpans F G (.sl sb si nd.set.length sc) nd.set ∧ IsInts F G (.sl kb ki nd.kids.length kc) nd.kids
    have dS : ∀ G G', S G → Drew G rb G' → S G' := by
      rintro G G' ⟨h1, h2, h3, h4, h5, h6⟩ hd
      exact ⟨h1.trans hd, hd.2.get h2 (by omega), hd.2.get h3 (by omega), h4.keep hd.2 hF, IsRow.keep h5 (loc_e2 _) (hd.2.agree hF), IsRow.keep h6 (loc_e1 _ _) (hd.2.agree hF)⟩
    have hS : S G := ⟨(Drew.refl hr).ext0 hEG, gX, gN, hx0.keep0 hEG, hset.keep0 hEG, hkids.keep0 hEG⟩
    -- a kid's sample
    have kid : ∀ (z : Int) (d : Int) (G : AH), z ∈ nd.kids → S G → size x z.toNat ≤ 1000 → CallsA prog spec_l1Rd_sample [.ptr rb 0, .agg [.sl xb xi x.length xc], .int .i64 z, .int .i64 d] G fun r H' => (∃ s, r = .str s ∧ s.length ≤ 200 * size x z.toNat) ∧ Drew G rb H' := by
      intro z d G hz hS hs
      have h := okn.kid z hz
      have e : z = ((z.toNat : Nat) : Int) := by omega
      rw [e, tn]
      exact ih z.toNat (by omega) (by omega) G d hS.1.1 hS.2.2.2.1 hs
    have n0 : ∀ {G : AH}, S G → G.cell (H.length + 1) 0 = some (.int .i64 nd.op) := fun h => cell_of (i := 0) h.2.2.1 rfl
    have n1 : ∀ {G : AH}, S G → G.cell (H.length + 1) 1 = some (.sl sb si nd.set.length sc) := fun h => cell_of (i := 1) h.2.2.1 rfl
    have n2 : ∀ {G : AH}, S G → G.cell (H.length + 1) 2 = some (.sl kb ki nd.kids.length kc) := fun h => cell_of (i := 2) h.2.2.1 rfl
    have n3 : ∀ {G : AH}, S G → G.cell (H.length + 1) 3 = some (.int .i64 nd.mn) := fun h => cell_of (i := 3) h.2.2.1 rfl
    have n4 : ∀ {G : AH}, S G → G.cell (H.length + 1) 4 = some (.int .i64 nd.mx) := fun h => cell_of (i := 4) h.2.2.1 rfl
    have xX : ∀ {G : AH}, S G → G.cell H.length 0 = some (.sl xb xi x.length xc) := fun h => cell_of (i := 0) h.2.1 rfl
    refine ldInt (n0 hS) (splE (fun h2 => ?_) (fun h2 => splE (fun h3 => ?_) (fun h3 => splE (fun h4 => ?_) (fun h4 => splE (fun h1 => ⟨⟨[], rfl, by simp⟩, hS.1⟩) (fun h1 => ?_)))))
    · -- a set
      obtain ⟨okS, neS⟩ := okn.set h2
      have hsl : 0 < nd.set.length := (Nat.eq_zero_or_pos nd.set.length).elim (fun h => absurd (List.length_eq_zero_iff.1 h) neS) id
      refine ldSl (n1 hS) (ldSl (n1 hS) ?_)
      have hd1 : Drew G rb (G ++ [Blk.cells [V.int .i64 0, V.int .i64 0] false]) := (Drew.refl hS.1.1).ext0 (Ext.app _ _ _)
      refine (c_below hd1.1).use ?_
      rintro _ G2 ⟨⟨y, rfl, y0, y1⟩, hd2⟩
      have hS2 := dS _ _ hS (hd1.trans hd2)
      have lG := get_lt gN
      have hB2 := hd2.2.get (get_new G (Blk.cells [V.int .i64 0, V.int .i64 0] false)) (by omega)
      obtain ⟨s, hs⟩ : ∃ s, nd.set[y.toNat]? = some s := ⟨_, List.getElem?_eq_getElem (by omega)⟩
      obtain ⟨s1, s2⟩ := hS2.2.2.2.2.1.at hs
      obtain ⟨o1, o2, o3, -⟩ := okS _ s hs
      refine asIntI ⟨hB2, n1 hS2, ⟨by omega, by omega⟩, ldInt s1 (ldInt s2 (stI2 hB2 trivial ?_))⟩
      generalize hT : G2.set G.length (.cells [V.int .i64 s.1, .int .i64 s.2] false) = T
      have tB : T[G.length]? = some (.cells [V.int .i64 s.1, .int .i64 s.2] false) := by rw [← hT]; exact get_set _ (get_lt hB2)
      have hET : Ext (fun z => z = G.length) G2 T := by rw [← hT]; exact Ext.set _ _ _ rfl
      have hdT : Drew H rb T := hS2.1.new hlt hET (by omega)
      refine ldInt (cell_of (i := 0) tB rfl) (ldInt (cell_of (i := 1) tB rfl) (ldInt (cell_of (i := 0) tB rfl) ((c_below hdT.1).use ?_)))
      rintro _ G3 ⟨⟨z, rfl, -⟩, hd3⟩
      refine asIntI ⟨cell_of (i := 0) (hd3.2.get tB (by omega)) rfl, strNew1 ⟨⟨_, rfl, by simp; omega⟩, (hdT.trans hd3).ext0 (Ext.app _ _ _)⟩⟩
    · -- one behind the other
      have hk2 : nd.kids.length = 2 := by rw [okn.len, kidsN2 (.inl h3)]
      obtain ⟨y, z, hyz⟩ := two_kids hk2
      rw [hyz] at hse
      simp at hse
      have ky : AH.cell G kb (ki + 0 * 1) = some (.int .i64 y) := hS.2.2.2.2.2.at (k := 0) (by rw [hyz]; rfl)
      have kz : ∀ {G : AH}, S G → G.cell kb (ki + 1 * 1) = some (.int .i64 z) := fun hS => hS.2.2.2.2.2.at (k := 1) (by rw [hyz]; rfl)
      rw [Nat.zero_mul, Nat.add_zero] at ky
      refine ldSl (xX hS) (ldSl (n2 hS) ⟨⟨by omega, by omega⟩, ldInt ky (ldSl (xX hS) (ldSl (n2 hS) ⟨⟨by omega, by omega⟩, ldInt (kz hS) ((kid y _ G (by rw [hyz]; simp) hS (by omega)).use ?_)⟩))⟩)
      rintro _ G2 ⟨⟨s1, rfl, hs1⟩, hd2⟩
      have hS2 := dS _ _ hS hd2
      refine asStrI ⟨kz hS2, n2 hS2, ⟨xX hS2, trivial⟩, (kid z _ G2 (by rw [hyz]; simp) hS2 (by omega)).use ?_⟩
      rintro _ G3 ⟨⟨s2, rfl, hs2⟩, hd3⟩
      exact asStrI ⟨by unfold catOk; omega, ⟨_, rfl, by simp; omega⟩, (dS _ _ hS2 hd3).1⟩
    · -- one of two
      have hk2 : nd.kids.length = 2 := by rw [okn.len, kidsN2 (.inr h4)]
      obtain ⟨y, z, hyz⟩ := two_kids hk2
      rw [hyz] at hse
      simp at hse
      refine ldSl (xX hS) (ldSl (n2 hS) ((c_below hS.1.1).use ?_))
      rintro _ G2 ⟨⟨w, rfl, w0, w1⟩, hd2⟩
      have hS2 := dS _ _ hS hd2
      have hw : ∃ u, nd.kids[w.toNat]? = some u ∧ size x u.toNat ≤ size x y.toNat + size x z.toNat := by
        rcases (show w.toNat = 0 ∨ w.toNat = 1 by omega) with e | e <;> rw [e, hyz]
        · exact ⟨y, rfl, by omega⟩
        · exact ⟨z, rfl, by omega⟩
      obtain ⟨u, hu, hsu⟩ := hw
      refine asIntI ⟨n2 hS2, ⟨xX hS2, trivial⟩, ⟨by omega, by omega⟩, ldInt (hS2.2.2.2.2.2.at hu) ((kid u _ G2 (List.mem_of_getElem? hu) hS2 (by omega)).use ?_)⟩
      rintro _ G3 ⟨⟨s1, rfl, hs1⟩, hd3⟩
      exact asStrI ⟨⟨_, rfl, by omega⟩, (dS _ _ hS2 hd3).1⟩
    · -- many times
      have hop : nd.op = 5 ∨ nd.op = 6 ∨ nd.op = 7 ∨ nd.op = 8 := by have := okn.op1; have := okn.op8; omega
      have hk1 : nd.kids.length = 1 := by rw [okn.len, kidsN1 hop]
      obtain ⟨z, hz⟩ := one_kid hk1
      rw [hz] at hse
      simp at hse
      have kz : ∀ {G : AH}, S G → G.cell kb ki = some (.int .i64 z) := fun hS => by
        have := hS.2.2.2.2.2.at (k := 0) (z := z) (by rw [hz]; rfl)
        rwa [Nat.zero_mul, Nat.add_zero] at this
      have hzm : z ∈ nd.kids := by rw [hz]; simp
      have J11 : ∀ (s : List UInt8) G, S G → s.length ≤ 200 * size x pl → J_spec_l1Rd_sample_11 D (fun r H' => (∃ s, r = .str s ∧ s.length ≤ 200 * size x pl) ∧ Drew H rb H') [(12, .str s)] G := by
        intro s G hS hs
        rw [J_spec_l1Rd_sample_11_eq hD]
        exact ⟨⟨s, rfl, hs⟩, hS.1⟩
      have J13 : ∀ (s : List UInt8) G, S G → s.length ≤ 200 * size x pl → J_spec_l1Rd_sample_13 D (fun r H' => (∃ s, r = .str s ∧ s.length ≤ 200 * size x pl) ∧ Drew H rb H') [(12, .str s)] G := by
        intro s G hS hs
        rw [J_spec_l1Rd_sample_13_eq hD]
        exact ⟨⟨s, rfl, hs⟩, hS.1⟩
      have J14 : ∀ (b : Bool) (s : List UInt8) G, S G → s.length ≤ 199 + 200 * size x z.toNat → (b = true → s.length < 200) → J_spec_l1Rd_sample_14 D (fun r H' => (∃ s, r = .str s ∧ s.length ≤ 200 * size x pl) ∧ Drew H rb H') [(156, .bool b), (12, .str s), (0, .ptr rb 0), (5, .ptr H.length 0), (9, .ptr (H.length + 1) 0), (3, .int .i64 deep)] G := by
        intro b s G hS hs hb
        rw [J_spec_l1Rd_sample_14_eq hD]
        refine spl (fun h => ldSl (xX hS) (ldSl (n2 hS) ⟨⟨by omega, by omega⟩, ldInt (kz hS) ((kid z _ G hzm hS (by omega)).use ?_)⟩)) (fun h => J13 s G hS (by omega))
        rintro _ G2 ⟨⟨s1, rfl, hs1⟩, hd2⟩
        have := hb h
        exact asStrI ⟨by unfold catOk; omega, J13 _ _ (dS _ _ hS hd2) (by simp; omega)⟩
      have J9 : ∀ (s : List UInt8) G, S G → s.length ≤ 199 + 200 * size x z.toNat → J_spec_l1Rd_sample_9 D (fun r H' => (∃ s, r = .str s ∧ s.length ≤ 200 * size x pl) ∧ Drew H rb H') [(12, .str s), (0, .ptr rb 0), (5, .ptr H.length 0), (9, .ptr (H.length + 1) 0), (3, .int .i64 deep)] G := by
        intro s G hS hs
        rw [J_spec_l1Rd_sample_9_eq hD]
        refine ldInt (n0 hS) (splN (fun h => (c_once hS.1.1).use ?_) (fun h => J14 false s G hS hs (fun h => by cases h)))
        rintro _ G2 ⟨⟨t, rfl⟩, hd2⟩
        have hS2 := dS _ _ hS hd2
        exact asBoolI (spl (fun _ => J14 _ s _ hS2 hs (fun h => by have := of_decide_eq_true h; omega)) (fun _ => J14 false s _ hS2 hs (fun h => by cases h)))
      have J12 : ∀ (b : Bool) (s : List UInt8) G, S G → s.length ≤ 199 + 200 * size x z.toNat → (b = true → s = []) → J_spec_l1Rd_sample_12 D (fun r H' => (∃ s, r = .str s ∧ s.length ≤ 200 * size x pl) ∧ Drew H rb H') [(132, .bool b), (12, .str s), (0, .ptr rb 0), (5, .ptr H.length 0), (9, .ptr (H.length + 1) 0), (3, .int .i64 deep)] G := by
        intro b s G hS hs hb
        rw [J_spec_l1Rd_sample_12_eq hD]
        refine spl (fun h => ldSl (xX hS) (ldSl (n2 hS) ⟨⟨by omega, by omega⟩, ldInt (kz hS) ((kid z _ G hzm hS (by omega)).use ?_)⟩)) (fun h => J11 s G hS (by omega))
        rintro _ G2 ⟨⟨s1, rfl, hs1⟩, hd2⟩
        have := hb h
        subst this
        exact asStrI ⟨by unfold catOk; simp; omega, J11 _ _ (dS _ _ hS hd2) (by simp; omega)⟩
      have J10 : ∀ (b : Bool) (s : List UInt8) G, S G → s.length ≤ 199 + 200 * size x z.toNat → (nd.op = 7 → s = []) → J_spec_l1Rd_sample_10 D (fun r H' => (∃ s, r = .str s ∧ s.length ≤ 200 * size x pl) ∧ Drew H rb H') [(125, .bool b), (12, .str s), (0, .ptr rb 0), (5, .ptr H.length 0), (9, .ptr (H.length + 1) 0), (3, .int .i64 deep)] G := by
        intro b s G hS hs h7
        rw [J_spec_l1Rd_sample_10_eq hD]
        refine spl (fun h => ldInt (n0 hS) (splE (fun h => (c_once hS.1.1).use ?_) (fun h => J12 false s G hS hs (fun h => by cases h)))) (fun h => J9 s G hS hs)
        rintro _ G2 ⟨⟨t, rfl⟩, hd2⟩
        exact asBoolI (J12 t s _ (dS _ _ hS hd2) hs (fun _ => h7 h))
      have J4 : ∀ (s : List UInt8) G, S G → s.length ≤ 199 + 200 * size x z.toNat → (nd.op = 7 → s = []) → J_spec_l1Rd_sample_4 D (fun r H' => (∃ s, r = .str s ∧ s.length ≤ 200 * size x pl) ∧ Drew H rb H') [(12, .str s), (0, .ptr rb 0), (5, .ptr H.length 0), (9, .ptr (H.length + 1) 0), (3, .int .i64 deep)] G := by
        intro s G hS hs h7
        rw [J_spec_l1Rd_sample_4_eq hD]
        exact ldInt (n0 hS) (splE (fun h => J10 _ s G hS hs h7) (fun h => ldInt (n0 hS) (splE (fun h => ldInt (n4 hS) (ldInt (n3 hS) (J10 _ s G hS hs h7))) (fun h => J10 _ s G hS hs h7))))
      have J3 : ∀ (least : Int), 0 ≤ least → least ≤ 30 → (nd.op = 7 → least = 0) → J_spec_l1Rd_sample_3 D (fun r H' => (∃ s, r = .str s ∧ s.length ≤ 200 * size x pl) ∧ Drew H rb H') [(11, .int .i64 least), (0, .ptr rb 0), (5, .ptr H.length 0), (9, .ptr (H.length + 1) 0), (3, .int .i64 deep)] G := by
        intro least l0 l30 l7
        rw [J_spec_l1Rd_sample_3_eq hD]
        refine loopUp (σ := List UInt8) least.toNat (fun k s => [(12, .str s), (13, .int .i64 k), (11, .int .i64 least), (0, .ptr rb 0), (5, .ptr H.length 0), (9, .ptr (H.length + 1) 0), (3, .int .i64 deep)])
          (fun k s G => S G ∧ s.length ≤ 199 + 200 * size x z.toNat ∧ (k = 0 → s = [])) [] rfl ⟨hS, by simp, fun _ => rfl⟩ ?_
        rintro k s G2 hk ⟨hS2, hs, hk0⟩
        have J7 : ∀ b : Bool, (b = true → s.length < 200 ∧ k < least.toNat) → (b = false → True) → J_spec_l1Rd_sample_7 D (fun r H' => (∃ s, r = .str s ∧ s.length ≤ 200 * size x pl) ∧ Drew H rb H') (Nxt least.toNat (fun k s => [(12, .str s), (13, .int .i64 k), (11, .int .i64 least), (0, .ptr rb 0), (5, .ptr H.length 0), (9, .ptr (H.length + 1) 0), (3, .int .i64 deep)])
          (fun k s G => S G ∧ s.length ≤ 199 + 200 * size x z.toNat ∧ (k = 0 → s = [])) k) [(97, .bool b), (12, .str s), (13, .int .i64 k), (11, .int .i64 least), (0, .ptr rb 0), (5, .ptr H.length 0), (9, .ptr (H.length + 1) 0), (3, .int .i64 deep)] G2 := by
          intro b hb _
          rw [J_spec_l1Rd_sample_7_eq hD]
          refine spl (fun h => ?_) (fun h => J4 s G2 hS2 hs (fun h7 => hk0 (by have := l7 h7; omega)))
          obtain ⟨hs2, hkl⟩ := hb h
          rw [J_spec_l1Rd_sample_6_eq hD]
          refine ldSl (xX hS2) (ldSl (n2 hS2) ⟨⟨by omega, by omega⟩, ldInt (kz hS2) ((kid z _ G2 hzm hS2 (by omega)).use ?_)⟩)
          rintro _ G3 ⟨⟨s1, rfl, hs1⟩, hd3⟩
          refine asStrI ⟨by unfold catOk; omega, ?_⟩
          rw [J_spec_l1Rd_sample_8_eq hD, inc (by omega)]
          exact nxt (s ++ s1) hkl rfl ⟨dS _ _ hS2 hd3, by simp; omega, fun h => by omega⟩
        rw [L_spec_l1Rd_sample_5_eq hD]
        exact splD (fun h => J7 _ (fun h5 => ⟨by have := of_decide_eq_true h5; omega, by omega⟩) (fun _ => trivial)) (fun h => J7 false (fun h => by cases h) (fun _ => trivial))
      have J2 : ∀ (least : Int), 0 ≤ least → least ≤ 1 → (nd.op = 7 → least = 0) → J_spec_l1Rd_sample_2 D (fun r H' => (∃ s, r = .str s ∧ s.length ≤ 200 * size x pl) ∧ Drew H rb H') [(11, .int .i64 least), (0, .ptr rb 0), (5, .ptr H.length 0), (9, .ptr (H.length + 1) 0), (3, .int .i64 deep)] G := by
        intro least l0 l1 l7
        rw [J_spec_l1Rd_sample_2_eq hD]
        refine ldInt (n0 hS) (splE (fun h8 => ldInt (n3 hS) ?_) (fun h8 => J3 _ l0 (by omega) l7))
        have ot := okn.times h8
        exact J3 _ ot.1 ot.2.1 (fun h => by omega)
      rw [J_spec_l1Rd_sample_1_eq hD]
      exact ldInt (n0 hS) (splE (fun h6 => J2 1 (by omega) (by omega) (fun h => by omega)) (fun h6 => J2 0 (by omega) (by omega) (fun _ => rfl)))

end Go.Proofs.YtpjkammmoaeheaaDoor.Aw

/- Contracts: an expression that need not be right is drawn. -/
set_option linter.unusedSimpArgs false
set_option linter.unusedVariables false
set_option maxRecDepth 10000
namespace Go.Proofs.YtpjkammmoaeheaaDoor.Aw
open Go Go.RowKit

theorem flat_set5 {v : V} {j : Nat} (hj : j < 5) : ∀ (rs : List Raw) (i : Nat) (r r' : Raw), rs[i]? = some r → r'.cells = r.cells.set j v → (rs.flatMap Raw.cells).set (i * 5 + j) v = (rs.set i r').flatMap Raw.cells
  | [], i, r, r', h, _ => by simp at h
  | q :: rs, 0, r, r', h, hc => by
    simp at h; subst h
    simp only [List.flatMap_cons, List.set_cons_zero, Nat.zero_mul, Nat.zero_add]
    rw [List.set_append_left _ _ (by show j < 5; exact hj), hc]
  | q :: rs, i + 1, r, r', h, hc => by
    simp only [List.flatMap_cons, List.set_cons_succ]
    rw [List.set_append_right _ _ (by show 5 ≤ _; omega)]
    congr 1
    have := flat_set5 hj rs i r r' (by simpa using h) hc
    rw [← this]
    congr 1
    show (i + 1) * 5 + j - 5 = i * 5 + j
    omega

theorem RxO.cellAt {n0 nb nn : Nat} {H : AH} {nc : Cap} {rs : List Raw} (h : RxO n0 H nb nn nc rs) {i t : Nat} {r : Raw} {v : V} (hr : rs[i]? = some r) (ht : t < 5) (hv : r.cells[t]? = some v) : H.cell nb (0 + i * 5 + t) = some v :=
  h.own.get (by rw [Nat.zero_add, flat2 (f := Raw.cells) (n := 5) (fun _ => rfl) rs i r t hr ht, hv])

theorem RxO.blk {n0 nb nn : Nat} {H : AH} {nc : Cap} {rs : List Raw} (h : RxO n0 H nb nn nc rs) (hn : nn ≠ 0) : nc ≠ .nil ∧ n0 ≤ nb ∧ H[nb]? = some (.cells (rs.flatMap Raw.cells) false) := by
  rcases h.own.2 with ⟨_, q, _⟩ | ⟨q1, q2, q3⟩
  · exact absurd q hn
  · exact ⟨(by rintro rfl; rcases q3 with q | q <;> cases q), q1, q2⟩

theorem RxO.storeCell {n0 nb nn : Nat} {H : AH} {nc : Cap} {rs : List Raw} (h : RxO n0 H nb nn nc rs) {i j a : Nat} {r r' : Raw} {v : V} {K : AH → Prop} (hr : rs[i]? = some r) (hj : j < 5) (ha : a = i * 5 + j) (hc : r'.cells = r.cells.set j v)
    (hk : ∀ H', H'[nb]? = some (.cells ((rs.set i r').flatMap Raw.cells) false) → Ext (fun x => x = nb) H H' → K H') : stK H nb a [v] K := by
  subst ha
  have hi := (List.getElem?_eq_some_iff.1 hr).1
  have hn := h.len
  obtain ⟨_, _, hB⟩ := h.blk (by omega)
  refine stI hB (by rw [flat_len (n := 5) (fun _ => rfl)]; omega) ?_
  rw [flat_set5 hj rs i r r' hr hc]
  exact hk _ (get_set _ (get_lt hB)) (Ext.set _ _ _ rfl)

theorem nodup_flat {α β : Type} {f : α → List β} : ∀ {l : List α}, (l.flatMap f).Nodup → (∀ x ∈ l, (f x).Nodup) ∧ ∀ (i j : Nat) (x y : α), l[i]? = some x → l[j]? = some y → i < j → ∀ a ∈ f x, a ∉ f y
  | [], _ => ⟨by simp, fun i j x y h => by simp at h⟩
  | z :: l, h => by
    rw [List.flatMap_cons, List.nodup_append] at h
    obtain ⟨h1, h2⟩ := nodup_flat h.2.1
    refine ⟨fun x hx => ?_, fun i j x y hi hj hij a ha hb => ?_⟩
    · rcases List.mem_cons.1 hx with rfl | hx
      · exact h.1
      · exact h1 x hx
    · cases j with
      | zero => omega
      | succ j =>
        cases i with
        | zero =>
          simp at hi hj
          subst hi
          exact h.2.2 a ha a (List.mem_flatMap.2 ⟨y, List.mem_of_getElem? hj, hb⟩) rfl
        | succ i => exact h2 i j x y (by simpa using hi) (by simpa using hj) (by omega) a ha hb

theorem blks_apart {rs : List Raw} (h : (blksOf rs).Nodup) {i j : Nat} {r q : Raw} (hr : rs[i]? = some r) (hq : rs[j]? = some q) (hij : i ≠ j) : ∀ x ∈ r.blks, x ∉ q.blks := by
  intro x h1 h2
  rcases Nat.lt_or_gt_of_ne hij with hlt | hlt
  · exact (nodup_flat h).2 i j r q hr hq hlt x h1 h2
  · exact (nodup_flat h).2 j i q r hq hr hlt x h2 h1

theorem c_oddRx {H : AH} {rb deep : Nat} (hr : Rd H rb) (hd : deep ≤ 8) : CallsA prog spec_l1Rd_oddRx [.ptr rb 0, .int .i64 deep] H fun v H' =>
    ∃ b i n c x, v = .agg [.sl b i n c] ∧ IsNodes (fun y => H.length ≤ y) H' (.sl b i n c) x ∧ Drew H rb H' := by
  have hlt := hr.lt
  refine spec_l1Rd_oddRx_in fun D hD => ?_
  rw [spec_l1Rd_oddRx_eq hD]
  have hd0 : Drew H rb (H ++ [Blk.cells [V.sl 0 0 0 .nil] false]) := (Drew.refl hr).ext0 (Ext.app _ _ _)
  refine (c_rx hd0.1 hd).use ?_
  rintro _ H1 ⟨nb, nn, nc, rs, rfl, hx1, ok, hd1⟩
  have hl0 : (H ++ [Blk.cells [V.sl 0 0 0 .nil] false]).length = H.length + 1 := by simp
  rw [hl0] at hx1
  have gX4 := hd1.2.get (get_new H (Blk.cells [V.sl 0 0 0 .nil] false)) (by omega)
  have lH1 := get_lt gX4
  refine asAggI (unconsI (asSlI (unnilI (stAll (get_new _ _) rfl ?_))))
  generalize hT : (H1 ++ [Blk.cells [V.sl 0 0 0 .nil] false]).set H1.length (.cells [V.sl nb 0 nn nc] false) = T
  have hET : Ext0 H1 T := by rw [← hT]; exact (Ext.app (fun _ => False) _ _).new (Ext.set _ _ _ (.inr (Nat.le_refl _)))
  have tX : T[H1.length]? = some (.cells [V.sl nb 0 nn nc] false) := by rw [← hT]; exact get_set _ (by simp)
  -- the nodes as drawn, the two places
  let S (G : AH) : Prop := Drew H rb G ∧ G[H1.length]? = some (.cells [V.sl nb 0 nn nc] false) ∧ (∃ w, G[H.length]? = some (.cells [w] false)) ∧ RxO (H.length + 1) G nb nn nc rs
  have hnn := hx1.len
  have hpos : 1 ≤ rs.length := by have := ok.pos; simpa using this
  have hmost : rs.length ≤ 300 := by have := ok.most; simpa using this
  obtain ⟨hnc, hnbge, hB1⟩ := hx1.blk (by omega)
  have hnbX : nb < H1.length := get_lt hB1
  have hblt : ∀ x ∈ blksOf rs, H.length + 1 ≤ x ∧ x < H1.length := fun x hx => hx1.lt hx
  have dS : ∀ G G', S G → Drew G rb G' → S G' := by
    rintro G G' ⟨h1, h2, ⟨w, h3⟩, h4⟩ hd
    exact ⟨h1.trans hd, hd.2.get h2 (by omega), ⟨w, hd.2.get h3 (by omega)⟩, h4.keep hd.2 (fun _ => by omega) fun x hx => by have := hblt x hx; omega⟩
  have hST : S T := ⟨(hd0.trans hd1).ext0 hET, tX, ⟨_, hET.get gX4 id⟩, hx1.keep hET (fun _ => id) fun _ _ => id⟩
  have xX : ∀ {G : AH}, S G → G.cell H1.length 0 = some (.sl nb 0 nn nc) := fun h => cell_of (i := 0) h.2.1 rfl
  let F : Nat → Prop := fun y => H.length + 1 ≤ y ∧ y ≠ H1.length
  have fin : ∀ (G : AH) (b n : Nat) (c : Cap) (x : List Nd), Drew H rb G → G[H1.length]? = some (.cells [V.sl b 0 n c] false) → (∃ w, G[H.length]? = some (.cells [w] false)) → IsNodes F G (.sl b 0 n c) x →
      J_spec_l1Rd_oddRx_1 D (fun v H' => ∃ b i n c x, v = .agg [.sl b i n c] ∧ IsNodes (fun y => H.length ≤ y) H' (.sl b i n c) x ∧ Drew H rb H') [(5, .ptr H1.length 0), (4, .ptr H.length 0)] G := by
    rintro G b n c x hdG hX ⟨w, h4⟩ hN
    rw [J_spec_l1Rd_oddRx_1_eq hD]
    refine ldSl (cell_of (i := 0) hX rfl) (stAll h4 rfl (ldSl (cell_of (i := 0) (get_set _ (get_lt h4)) rfl) ⟨b, 0, n, c, x, rfl, ?_, hdG.new hlt (Ext.set (X := fun x => x = H.length) _ _ _ rfl) (by omega)⟩))
    exact (hN.keep (Ext.set (X := fun x => x = H.length) _ _ _ rfl) (fun y hy => by have := hy.1; omega)).lift fun y hy => by have := hy.1; omega
  let P : Nat → Prop := fun y => H.length + 1 ≤ y ∧ y ≠ H1.length ∧ y ≠ nb
  have hout := hx1.out hnc
  have hnodup := hx1.nodup
  have PF : ∀ y, P y → F y := fun y h => ⟨h.1, h.2.1⟩
  have inP : ∀ r ∈ rs, ∀ x ∈ r.blks, P x := fun r hr x hx => by
    have hm : x ∈ blksOf rs := List.mem_flatMap.2 ⟨r, hr, hx⟩
    have := hblt x hm
    exact ⟨this.1, by omega, fun e => hout (e ▸ hm)⟩
  have rawP : ∀ {G : AH}, RxO (H.length + 1) G nb nn nc rs → ∀ r ∈ rs, RawW P G r := fun h r hr => (h.raw r hr).w (inP r hr)
  have up : ∀ {G : AH} {r : Raw}, RawW P G r → RawW F G r := fun h => ⟨h.1, IsRow.mono h.2.1 PF, IsRow.mono h.2.2 PF⟩
  have hFnb : F nb := ⟨hnbge, by omega⟩
  have fin0 : ∀ {G : AH}, S G → J_spec_l1Rd_oddRx_1 D (fun v H' => ∃ b i n c x, v = .agg [.sl b i n c] ∧ IsNodes (fun y => H.length ≤ y) H' (.sl b i n c) x ∧ Drew H rb H') [(5, .ptr H1.length 0), (4, .ptr H.length 0)] G := fun {G} h =>
    fin G nb nn nc _ h.1 h.2.1 h.2.2.1 (nodesOf (h.2.2.2.blk (by omega)).2.2 hFnb hnn (by omega) fun r hr => up (rawP h.2.2.2 r hr))
  -- one cell of a node is laid anew
  have put : ∀ (G : AH) (i j a : Nat) (r r' : Raw) (v : V), Drew H rb G → G[H1.length]? = some (.cells [V.sl nb 0 nn nc] false) → (∃ w, G[H.length]? = some (.cells [w] false)) → G[nb]? = some (.cells (rs.flatMap Raw.cells) false) → rs[i]? = some r → j < 5 → a = i * 5 + j → r'.cells = r.cells.set j v → RawW P G r' →
      (∀ m q, rs[m]? = some q → m ≠ i → RawW P G q) → stK G nb a [v] fun G' =>
      J_spec_l1Rd_oddRx_1 D (fun v H' => ∃ b i n c x, v = .agg [.sl b i n c] ∧ IsNodes (fun y => H.length ≤ y) H' (.sl b i n c) x ∧ Drew H rb H') [(5, .ptr H1.length 0), (4, .ptr H.length 0)] G' := by
    rintro G i j a r r' v h1 h2 ⟨w, h3⟩ hB hr' hj rfl hc hw ho
    have hi := (List.getElem?_eq_some_iff.1 hr').1
    refine stI hB (by rw [flat_len (n := 5) (fun _ => rfl)]; omega) ?_
    rw [flat_set5 hj rs i r r' hr' hc]
    have hE : ∀ B, Ext (fun x => x = nb) G (G.set nb B) := fun B => Ext.set _ _ _ rfl
    refine fin _ nb nn nc _ (h1.new hlt (hE _) (by omega)) ((hE _).get h2 (by omega)) ⟨w, (hE _).get h3 (by omega)⟩ (nodesOf (get_set _ (get_lt hB)) hFnb (by rw [List.length_set]; exact hnn) (by rw [List.length_set]; omega) fun q hq => ?_)
    obtain ⟨m, hm⟩ := List.mem_iff_getElem?.1 hq
    rw [List.getElem?_set] at hm
    have keepP : ∀ q, RawW P G q → RawW F (G.set nb (.cells ((rs.set i r').flatMap Raw.cells) false)) q := fun q h => up (h.keep (hE _) fun y hy => hy.2.2)
    by_cases e : i = m
    · rw [if_pos e, if_pos hi] at hm
      cases hm; exact keepP _ hw
    · rw [if_neg e] at hm
      exact keepP _ (ho m q hm (fun h => e h.symm))
  refine ldSl (xX hST) ((c_below hST.1.1).use ?_)
  rintro _ H3 ⟨⟨y, rfl, y0, y1⟩, hd3⟩
  refine asIntI ((c_below (dS _ _ hST hd3).1.1).use ?_)
  rintro _ H4 ⟨⟨z, rfl, -⟩, hd4⟩
  have hS4 := dS _ _ (dS _ _ hST hd3) hd4
  have hyl : y.toNat < rs.length := by omega
  obtain ⟨r, hr'⟩ : ∃ r, rs[y.toNat]? = some r := ⟨_, List.getElem?_eq_getElem hyl⟩
  have hrm := List.mem_of_getElem? hr'
  have iy : inB y nn := ⟨y0, by omega⟩
  have hBS : ∀ {G : AH}, S G → G[nb]? = some (.cells (rs.flatMap Raw.cells) false) := fun h => (h.2.2.2.blk (by omega)).2.2
  refine asIntI (splE (fun _ => ldSl (xX hS4) ((c_off hS4.1.1 (by omega) (by omega) (by omega) (by omega)).use ?_)) (fun _ => splE (fun _ => ldSl (xX hS4) ((c_off hS4.1.1 (by omega) (by omega) (by omega) (by omega)).use ?_)) (fun _ => splE (fun _ => ?_) (fun _ => splE (fun _ => ?_) (fun _ => splE (fun _ => ldSl (xX hS4) ((c_oddClass hS4.1.1).use ?_)) (fun _ => splE (fun _ => (c_below hS4.1.1).use ?_) (fun _ => fin0 hS4)))))))
  · rintro _ H5 ⟨⟨u, rfl⟩, hd5⟩
    have hS5 := dS _ _ hS4 hd5
    have hw := rawP hS5.2.2.2 r hrm
    exact asIntI ⟨xX hS5, iy, put H5 y.toNat 0 _ r { r with op := u } _ hS5.1 hS5.2.1 hS5.2.2.1 (hBS hS5) hr' (by omega) (by omega) rfl hw fun m q hq _ => rawP hS5.2.2.2 q (List.mem_of_getElem? hq)⟩
  · rintro _ H5 ⟨⟨u, rfl⟩, hd5⟩
    have hS5 := dS _ _ hS4 hd5
    have hw := rawP hS5.2.2.2 r hrm
    exact asIntI ⟨xX hS5, iy, put H5 y.toNat 3 _ r { r with mn := u } _ hS5.1 hS5.2.1 hS5.2.2.1 (hBS hS5) hr' (by omega) (by omega) rfl hw fun m q hq _ => rawP hS5.2.2.2 q (List.mem_of_getElem? hq)⟩
  · -- one kid more
    have g2 : ∀ {G : AH}, S G → G.cell nb (0 + y.toNat * 5 + 2) = some (.sl r.kb 0 r.kn r.kc) := fun h => h.2.2.2.cellAt hr' (by omega) rfl
    refine ldSl (xX hS4) (ldSl (xX hS4) ⟨iy, ldSl (g2 hS4) ((c_off hS4.1.1 (by omega) (by omega) (by omega) (by omega)).use ?_)⟩)
    rintro _ H5 ⟨⟨u, rfl⟩, hd5⟩
    have hS5 := dS _ _ hS4 hd5
    refine asIntI ⟨g2 hS5, xX hS5, xX hS5, cellsNew rfl ?_⟩
    have hl5 : (H5 ++ [Blk.cells [V.int .i64 u] false]).length = H5.length + 1 := by simp
    have hlX5 := get_lt hS5.2.1
    obtain ⟨hrw1, hrw2⟩ := hS5.2.2.2.raw r hrm
    have hkn : r.kn = r.kids.length := by have := hrw2.len; simp at this; omega
    have hkb : r.kids.length ≤ 2 := by
      have := ok.node y.toNat r.nd (by rw [List.getElem?_map, hr']; rfl)
      have h1 := this.len
      have h2 := kidsN_le r.nd.op
      have e : r.nd.kids = r.kids := rfl
      rw [e] at h1; omega
    have hK5 : Own (H.length + 1) 1 (H5 ++ [Blk.cells [V.int .i64 u] false]) r.kb r.kn r.kc (r.kids.map vI) := hrw2.keep (Ext.app (fun _ => False) _ _) (fun _ => id)
    refine hK5.push (m := 1) rfl (by omega) (by omega) (by omega) (by omega) (by omega) fun H6 hK6 hl6 hE6 => ?_
    rw [hl5] at hK6 hl6 ⊢
    have hE56 : Ext (fun x => H.length + 1 ≤ x ∧ x = r.kb ∧ r.kc ≠ .nil) H5 H6 := (Ext.app _ _ _).trans hE6
    have hkbm : r.kc ≠ .nil → r.kb ∈ r.blks := Raw.kb_mem
    have hPkb : r.kc ≠ .nil → P r.kb := fun h => inP r hrm _ (hkbm h)
    have h6X := hE56.get hS5.2.1 (fun h => (hPkb h.2.2).2.1 h.2.1.symm)
    obtain ⟨w5, hw5⟩ := hS5.2.2.1
    refine ⟨cell_of (i := 0) h6X rfl, iy, put H6 y.toNat 2 _ r { r with kb := H5.length + 1, kn := r.kn + 1, kc := .toEnd 1, kids := r.kids ++ [u] } _ (hS5.1.new hlt hE56 (by omega)) h6X ⟨w5, hE56.get hw5 (by omega)⟩ (hE56.get (hBS hS5) (fun h => (hPkb h.2.2).2.2 h.2.1.symm)) hr' (by omega) (by omega) rfl ?_ ?_⟩
    · refine ⟨by simp; omega, ?_, ?_⟩
      · have h0 := ((hS5.2.2.2.raw r hrm).w (F := fun y => P y ∧ y ∈ r.blks) fun x hx => ⟨inP r hrm x hx, hx⟩).2.1
        by_cases hne : r.set = []
        · simp only [hne]; exact IsRow.nil
        · obtain ⟨b, i, c, e, q1, q2, q3⟩ := hrw1
          cases e
          refine ⟨_, _, _, rfl, q1, fun hs => inP r hrm _ (Raw.sb_mem hs), fun k s hs => ?_⟩
          have hne2 : r.kc ≠ .nil → r.sb ≠ r.kb := fun hkc => by
            have hnd : r.blks.Nodup := by
              have := (nodup_flat hnodup).1 r hrm
              exact this
            unfold Raw.blks at hnd
            intro he
            cases hs' : r.set with
            | nil => exact hne hs'
            | cons _ _ =>
              cases hk' : r.kc with
              | nil => exact hkc hk'
              | _ => rw [hs', hk'] at hnd; simp [he] at hnd
          have := q3 k s hs
          exact ⟨hE56.cell this.1 fun h => hne2 h.2.2 h.2.1, hE56.cell this.2 fun h => hne2 h.2.2 h.2.1⟩
      · have hrow : IsInts (fun x => H.length + 1 ≤ x) H6 (.sl (H5.length + 1) 0 (r.kn + 1) (.toEnd 1)) (r.kids ++ [u]) := by
          have : Own (H.length + 1) 1 H6 (H5.length + 1) (r.kn + 1) (.toEnd 1) ((r.kids ++ [u]).map vI) := by rw [List.map_append]; exact hK6
          exact this.row1
        obtain ⟨b, i, c, e, q1, q2, q3⟩ := hrow
        injection e with e1 e2 e3 e4
        subst e1 e2 e4
        exact ⟨H5.length + 1, 0, .toEnd 1, congrArg (fun n => V.sl (H5.length + 1) 0 n (.toEnd 1)) e3, q1, fun hs => ⟨by omega, by omega, by omega⟩, q3⟩
    · intro m q hq hm
      have hap := blks_apart hnodup hr' hq (fun h => hm h.symm)
      exact ((hS5.2.2.2.raw q (List.mem_of_getElem? hq)).keep hE56 fun x hx h => hap _ (hkbm h.2.2) (h.2.1 ▸ hx)).w (inP q (List.mem_of_getElem? hq))
  · -- a node once more
    have gc : ∀ {t v}, t < 5 → r.cells[t]? = some v → H4.cell nb (0 + y.toNat * 5 + t) = some v := fun ht hv => hS4.2.2.2.cellAt hr' ht hv
    refine ldSl (xX hS4) (ldSl (xX hS4) ⟨iy, ldInt (gc (t := 0) (by omega) rfl) (ldSl (gc (t := 1) (by omega) rfl) (ldSl (gc (t := 2) (by omega) rfl) (ldInt (gc (t := 3) (by omega) rfl) (ldInt (gc (t := 4) (by omega) rfl) (cellsNew rfl ?_)))))⟩)
    have hO : Own (H.length + 1) 5 (H4 ++ [Blk.cells r.cells false]) nb nn nc (rs.flatMap Raw.cells) := hS4.2.2.2.own.keep (Ext.app (fun _ => False) _ _) (fun _ => id)
    have hlX4 := get_lt hS4.2.1
    have hl4 : (H4 ++ [Blk.cells r.cells false]).length = H4.length + 1 := by simp
    refine hO.push (m := 1) rfl (by omega) (by omega) (by omega) (by omega) (by omega) fun H6 hO6 hl6 hE6 => ?_
    rw [hl4] at hO6 hl6 ⊢
    have hE46 : Ext (fun x => x = nb) H4 H6 := (Ext.app _ _ _).trans (hE6.mono fun x _ h => h.2.1)
    have h6X := hE46.get hS4.2.1 (by omega)
    refine stAll h6X rfl ?_
    obtain ⟨w4, hw4⟩ := hS4.2.2.1
    have hEX : ∀ B, Ext (fun x => x = H1.length) H6 (H6.set H1.length B) := fun B => Ext.set _ _ _ rfl
    rcases hO6.2 with ⟨q, _⟩ | ⟨q1, q2, _⟩
    · cases q
    have hlB : H4.length + 1 ≠ H1.length := by omega
    refine fin _ (H4.length + 1) (nn + 1) (.toEnd 5) _ ((hS4.1.new hlt hE46 (by omega)).new hlt (hEX _) (by omega)) (get_set _ (get_lt h6X)) ⟨w4, (hEX _).get (hE46.get hw4 (by omega)) (by omega)⟩ (nodesOf (rs := rs ++ [r]) (ro := false) ?_ ⟨by omega, hlB⟩ (by simp; omega) (by simp; omega) fun q hq => ?_)
    · have := (hEX (.cells [V.sl (H4.length + 1) 0 (nn + 1) (.toEnd 5)] false)).get q2 hlB
      rw [List.flatMap_append, List.flatMap_singleton]; exact this
    · have hq' : q ∈ rs := by
        rcases List.mem_append.1 hq with h | h
        · exact h
        · have : q = r := by simpa using h
          exact this ▸ hrm
      exact up (((rawP hS4.2.2.2 q hq').keep hE46 fun y hy => hy.2.2).keep (hEX _) fun y hy => hy.2.1)
  · rintro _ H5 ⟨⟨c, ⟨b, n, cp, rfl, hO⟩, hc⟩, hd5⟩
    have hS5 := dS _ _ hS4 hd5
    obtain ⟨rfl, hrow⟩ := ownSet hO
    have hlX4 := get_lt hS4.2.1
    have hw := rawP hS5.2.2.2 r hrm
    refine asSlI ⟨xX hS5, iy, put H5 y.toNat 1 _ r { r with sb := b, si := 0, sc := cp, set := c } _ hS5.1 hS5.2.1 hS5.2.2.1 (hBS hS5) hr' (by omega) (by omega) rfl ⟨hw.1, IsRow.mono hrow fun y hy => ⟨by omega, by omega, by omega⟩, hw.2.2⟩ fun m q hq _ => rawP hS5.2.2.2 q (List.mem_of_getElem? hq)⟩
  · -- many nodes more
    rintro _ H5 ⟨⟨u, rfl, u0, u1⟩, hd5⟩
    have hS5 := dS _ _ hS4 hd5
    refine asIntI ?_
    rw [w64 (by omega) (by omega)]
    have hu : 148 + u ≤ 152 := by omega
    refine loopUp (σ := Nat × Nat × Cap × List Raw) (148 + u).toNat (fun k s => [(7, .int .i64 (148 + u - (k : Int))), (4, .ptr H.length 0), (5, .ptr H1.length 0)])
      (fun k s G => Drew H rb G ∧ G[H1.length]? = some (.cells [V.sl s.1 0 s.2.1 s.2.2.1] false) ∧ (∃ w, G[H.length]? = some (.cells [w] false)) ∧ RxO (H.length + 1) G s.1 s.2.1 s.2.2.1 s.2.2.2 ∧ s.2.2.2.length = rs.length + k ∧ s.1 ≠ H1.length ∧ ∀ x ∈ blksOf s.2.2.2, x ≠ H1.length) (nb, nn, nc, rs) (by simp)
      ⟨hS5.1, hS5.2.1, hS5.2.2.1, hS5.2.2.2, rfl, by simp only; omega, fun x hx => by have := hblt x hx; omega⟩ ?_
    rintro k ⟨mb, mn, mc, ms⟩ G hk ⟨h1, h2, ⟨w, h3⟩, h4, h5, h6, h7⟩
    simp only at h2 h4 h5 h6 h7 ⊢
    have hmn := h4.len
    obtain ⟨hmc, hmge, hmB⟩ := h4.blk (by omega)
    rw [L_spec_l1Rd_oddRx_2_eq hD]
    refine splD (fun h => ?_) (fun h => ?_)
    · rw [J_spec_l1Rd_oddRx_3_eq hD]
      have gX := cell_of (i := 0) h2 rfl
      have hl1 : (G ++ [Blk.cells [V.int .i64 (IntKind.i64.wrap ((mn : Int) - 1))] false]).length = G.length + 1 := by simp
      have hlX := get_lt h2
      refine ldSl gX (ldSl gX (cellsNew rfl ?_))
      have hE1 : Ext0 G (G ++ [Blk.cells [V.int .i64 (IntKind.i64.wrap ((mn : Int) - 1))] false]) := Ext.app _ _ _
      have h41 := h4.keep hE1 (fun _ => id) fun _ _ => id
      have hblG : ∀ x ∈ blksOf ms, x < G.length := fun x hx => (h4.lt hx).2
      have hbr : (Raw.mk 5 0 0 .nil G.length 1 (.ex 1) 0 0 [] [IntKind.i64.wrap ((mn : Int) - 1)]).blks = [G.length] := rfl
      refine h41.push (r := ⟨5, 0, 0, .nil, G.length, 1, .ex 1, 0, 0, [], [IntKind.i64.wrap ((mn : Int) - 1)]⟩) ⟨IsRow.nil, Own.lit rfl (by omega) (show (1 : Nat) ≤ _ by omega)⟩ (fun x hx => ?_) (by rw [hbr]; simp) (by omega) (by omega) fun G2 hO2 hE2 => ?_
      · rw [hbr] at hx
        have : x = G.length := by simpa using hx
        subst this
        exact ⟨fun hm => by have := hblG _ hm; omega, fun _ he => by have := get_lt hmB; omega⟩
      rw [hl1] at hO2 ⊢
      have hE02 : Ext (fun x => x = mb) G G2 := hE1.of0.trans (hE2.mono fun x _ h => h.2.1)
      have h2X := hE02.get h2 (fun h => h6 h.symm)
      refine stAll h2X rfl ?_
      have hEX : ∀ B, Ext (fun x => x = H1.length) G2 (G2.set H1.length B) := fun B => Ext.set _ _ _ rfl
      rw [J_spec_l1Rd_oddRx_4_eq hD, w64 (by omega) (by omega)]
      refine nxt (G.length + 1 + 1, mn + 1, .toEnd 5, ms ++ [⟨5, 0, 0, .nil, G.length, 1, .ex 1, 0, 0, [], [IntKind.i64.wrap ((mn : Int) - 1)]⟩]) (by omega) (by rw [show 148 + u - (k : Int) - 1 = 148 + u - ((k + 1 : Nat) : Int) by omega]) ⟨(h1.new hlt hE02 (by omega)).new hlt (hEX _) (by omega), get_set _ (get_lt h2X), ⟨w, (hEX _).get (hE02.get h3 (by omega)) (by omega)⟩, hO2.keep (hEX _) (fun _ => by omega) fun x hx => ?_, by simp; omega, by simp only; omega, fun x hx => ?_⟩
      · rw [blksOf, List.flatMap_append] at hx
        rcases List.mem_append.1 hx with hx | hx
        · exact h7 x hx
        · have : x = G.length := by simpa [hbr] using hx
          omega
      · simp only [blksOf, List.flatMap_append] at hx
        rcases List.mem_append.1 hx with hx | hx
        · exact h7 x hx
        · have : x = G.length := by simpa [hbr] using hx
          omega
    · have hG : J_spec_l1Rd_oddRx_1 D (fun v H' => ∃ b i n c x, v = .agg [.sl b i n c] ∧ IsNodes (fun y => H.length ≤ y) H' (.sl b i n c) x ∧ Drew H rb H') [(5, .ptr H1.length 0), (4, .ptr H.length 0)] G :=
        fin G mb mn mc _ h1 h2 ⟨w, h3⟩ (nodesOf hmB ⟨hmge, h6⟩ hmn (by omega) fun q hq => (h4.raw q hq).w fun x hx => ⟨(h4.lt (List.mem_flatMap.2 ⟨q, hq, hx⟩)).1, h7 x (List.mem_flatMap.2 ⟨q, hq, hx⟩)⟩)
      exact hG

end Go.Proofs.YtpjkammmoaeheaaDoor.Aw
