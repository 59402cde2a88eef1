/- The law FnBegins returns true at every input, and its argument reads as it did: the card FnBeginsCardSaid, with the library's three listed tables lying as the program's text lays them. -/
import Derived.Test.YtpjkammmoaeheaaDoorG6
import Derived.Test.YtpjkammmoaeheaaDoorRows
import Derived.Test.YtpjkammmoaeheaaDoorTie
import Derived.ProofKit
import Derived.Handed
import Derived.JoinedOf
import Derived.LaidHandle
import Derived.LaidSub
import Derived.SevenTiedAt
import Derived.Test.YtpjkammmoaeheaaDoorCards

/- The row of FnBegins. -/
namespace Go.Proofs.YtpjkammmoaeheaaDoor
open Go Go.ChangeShapes Go.WideShapes Go.ChangeAt Go.RowKit

theorem Tryd.own : ownKnob Tryd.prog.godebug = none := by kernel_rfl
theorem Tryd.laidOut : laidOutB Tryd.prog = true := by kernel_rfl
theorem Tryd.cells5 : Tryd.prog.cellsOf 5 = 1 := by kernel_rfl

/-- The cells of a listed table. -/
def tabCells : DataW Unit → Array Value
  | .agg l => (l.map fun
    | .lit (.int k z) => Value.int k z
    | _ => .int .u8 0).toArray
  | _ => #[]

/-- A world whose tables lie as the row lists them. -/
noncomputable def laidWorld (os : Os) : World :=
  let w0 := World.holding Tryd.prog os ⟨#[], #[], []⟩
  let put (d : DataW Unit) : Obj → Obj := fun
    | .cells _ t frozen => .cells (tabCells d) t frozen
    | o => o
  { w0 with heap := ((w0.heap.modify 0 (put Rows.laid_internal_strconv_uint64pow10)).modify 1 (put Rows.laid_math_bits_deBruijn32tab)).modify 2 (put Rows.laid_math_bits_deBruijn64tab) }
theorem laidWorld_met (os : Os) (args : Array Value) : laidMetH Tryd.prog Rows.fnBeginsRow.laid ((laidWorld os).forCall (fun _ _ => 0) ⟨#[], args, []⟩).memory :=
  laidMetH_of_parts (laidMet_of_run' 8 (by kernel_rfl) (by kernel_rfl)) (by kernel_rfl)

/-- What the condition gives: the table of powers. -/
theorem good_of_laid {W : World} (h : laidMetH Tryd.prog Rows.fnBeginsRow.laid W) : Aw.GoodW W := by
  have h1 := (laidMetH_iff.1 h).1.filter fun x => x.1 == "internal/strconv.uint64pow10"
  have e : ((Rows.fnBeginsRow.laid.filter fun x => x.2.handleName?.isNone).filter fun x => x.1 == "internal/strconv.uint64pow10") = [("internal/strconv.uint64pow10", Lib.tabData .u64 Lib.pow10Tab)] := by kernel_rfl
  rw [e] at h1
  exact Lib.tabIs_of_head (g := 0) (t := 115) (e := 91) (n := 20) (by kernel_rfl) (by kernel_rfl) Tryd.underlying115 Tryd.underlying91 (by kernel_rfl) (by kernel_rfl) h1

/-- The walk, from a heap that tells of the argument's block. -/
theorem run_of {W : World} {p : Aw.PMap} {H0 : Aw.AH} {b i n : Nat} {c : Aw.Cap} {v0 : Value} (hI : Aw.Inv W p H0 W) (hr : Aw.Rn p (.sl b i n c) v0) (hb : b < H0.length)
    (hc : ∀ k, k < n → ∃ x, H0.cell b (i + k * 1) = some (.int .u8 x) ∧ 0 ≤ x ∧ x ≤ 255) : Calls Tryd.prog 3 #[v0] W fun e w' => e = .returned (.bool true) ∧ Below W.heap.size W w' := by
  rcases (Aw.c_FnBegins hb hc) W p W [v0] hI ⟨v0, [], rfl, hr, rfl⟩ with ⟨-, h⟩ | ⟨v, r, h, -⟩
  · refine h.mono ?_
    rintro e w' ⟨p', H', v, r, -, -, hI', rfl, hr, rfl⟩
    simp only [Aw.Rn] at hr
    subst hr
    exact ⟨rfl, hI'.below⟩
  · have := enters_of Tryd.func3 (by kernel_rfl) rfl #[v0] W
    rw [show List.toArray [v0] = #[v0] from rfl, show (Aw.laws_FnBegins : Nat) = 3 from rfl] at h
    rw [show (callFunc 3 #[v0]).run Aw.prog W = (callFunc 3 #[v0]).run Tryd.prog W from rfl, this] at h
    cases h

theorem wf_u8 {z : Int} (h : (Lit.int .u8 z).wf = true) : 0 ≤ z ∧ z ≤ 255 := by
  simp [Lit.wf, IntKind.min, IntKind.max, IntKind.signed, IntKind.bits] at h
  omega

/-- The walk, from the argument as the row's condition opens it. -/
theorem run_arg {H : Type} {enc : TypeId × Value → H} {W : World} {v0 : Value} {x : DataW H × List MemPlace} {fuel : Nat} (hg : Aw.GoodW W) (hs : ∃ a len cap, v0 = .slice a len cap)
    (hf : DataW.trod enc Tryd.prog W 0 (fun _ => true) true fuel 22 v0.cells.toList = some x) : Calls Tryd.prog 3 #[v0] W fun e w' => e = .returned (.bool true) ∧ Below W.heap.size W w' := by
  obtain ⟨a0, l0, c0, rfl⟩ := hs
  have dead : ∀ p : Aw.PMap, (∀ b e, p b = some e → b = 0) → Aw.Inv W p [Aw.Blk.dead] W := fun p hp => ⟨Below.refl _ _, fun b e he => by rw [hp b e he]; trivial, fun b b' e e' h1 h2 _ _ _ => by rw [hp b e h1, hp b' e' h2], hg⟩
  rcases open_ints Tryd.underlying22 Tryd.underlying5 Tryd.cells5 hf with ⟨hcs, -⟩ | ⟨a, len, cap, zs, hcs, -, hl, hm, hz, -, hcell, hwf⟩
  · simp [Value.cells] at hcs
    obtain ⟨rfl, rfl, rfl⟩ := hcs
    exact run_of (p := fun _ => none) (H0 := [.dead]) (b := 0) (i := 0) (n := 0) (c := .nil) (dead _ (by simp)) (.inl ⟨rfl, rfl, rfl⟩) (by simp) (fun k hk => by omega)
  · simp [Value.cells] at hcs
    obtain ⟨rfl, rfl, rfl⟩ := hcs
    simp only [if_true] at hz
    by_cases h0 : c0 = 0
    · subst h0
      obtain rfl : l0 = 0 := by omega
      have hp : ∀ (b : Nat) (e : Aw.Ent), (if b = 0 then some (⟨0, 0, 0⟩ : Aw.Ent) else none) = some e → b = 0 := fun b e h => by
        by_cases hb : b = 0
        · exact hb
        · simp [hb] at h
      exact run_of (p := fun b => if b = 0 then some ⟨0, 0, 0⟩ else none) (H0 := [.dead]) (b := 0) (i := 0) (n := 0) (c := .ex 0) (dead _ hp) (.inr ⟨⟨0, 0, 0⟩, by simp, Nat.le_refl _, .inr ⟨rfl, a, rfl⟩⟩) (by simp) (fun k hk => by omega)
    · obtain ⟨b, off, spot⟩ := a
      have hspot : spot = none := by simpa [Addr.add] using World.cell?_spot (hcell 0 (by omega))
      subst hspot
      obtain ⟨cs, t, fz, hb, hc⟩ : ∃ cs t fz, W.heap[b]? = some (.cells cs t fz) ∧ ∀ i, i < zs.length → cs[off + i]? = some (.int .u8 (zs.getD i 0)) := by
        have h1 := hcell 0 (by omega)
        rw [add_plain] at h1
        cases hh : W.heap[b]? with
        | none => simp [World.cell?, hh] at h1
        | some o =>
          cases o with
          | cells cs t fz => exact ⟨cs, t, fz, rfl, fun i hi => by have := hcell i hi; rw [add_plain] at this; simpa [World.cell?, hh] using this⟩
          | _ => simp [World.cell?, hh] at h1
      have hsz : off + c0 ≤ cs.size := by
        have := (Array.getElem?_eq_some_iff.1 (hc (c0 - 1) (by omega))).1
        omega
      have zi : ∀ {i z}, zs[i]? = some z → zs.getD i 0 = z := fun h => by simp [List.getD, h]
      refine run_of (p := fun y => if y = 0 then some ⟨b, off, c0⟩ else none) (H0 := [.cells (zs.map (Aw.V.int .u8)) true]) (b := 0) (i := 0) (n := l0) (c := .ex c0) ⟨Below.refl _ _, fun y e he => ?_, fun y y' e e' h1 h2 _ _ _ => ?_, hg⟩ (.inr ⟨⟨b, off, c0⟩, by simp, hl, .inl rfl⟩) (by simp) (fun k hk => ?_)
      · by_cases hy : y = 0
        · subst hy
          simp only [if_true, Option.some.injEq] at he
          subst he
          refine ⟨cs, t, fz, hb, hsz, by simp [hz], fun i v hv => ?_, (Array.getElem?_eq_some_iff.1 hb).1⟩
          simp only [List.getElem?_map, Option.map_eq_some_iff] at hv
          obtain ⟨z, hzi, rfl⟩ := hv
          refine ⟨rfl, _, hc i (List.getElem?_eq_some_iff.1 hzi).1, ?_⟩
          rw [zi hzi]; rfl
        · simp [hy] at he
      · by_cases hy : y = 0
        · by_cases hy' : y' = 0
          · rw [hy, hy']
          · simp [hy'] at h2
        · simp [hy] at h1
      · have hk' : k < zs.length := by omega
        obtain ⟨z, hzk⟩ : ∃ z, zs[k]? = some z := ⟨_, List.getElem?_eq_getElem hk'⟩
        exact ⟨z, Aw.cell_of rfl (by simp [hzk]), wf_u8 (hwf z (List.mem_of_getElem? hzk))⟩

set_option maxRecDepth 100000 in
theorem fnBegins_lifted (os : Os) (started : os.Started) (H : Type) (enc : TypeId × Value → H) :
    ReturnsInHanded {} Tryd.checked os 3 .any (fun w args => (Rows.fnBeginsSpec.pre enc Tryd.prog Tryd.f3 [] false w args ∧ laidMetH Tryd.prog Rows.fnBeginsRow.laid w) ∧ sizedMet enc Tryd.prog Tryd.f3 (OpenSpec.ofChange Rows.fnBeginsSpec) false w args)
      (Rows.fnBeginsSpec.post enc Tryd.prog Tryd.f3 false true false false) := by
  refine returnsInHanded_of_change_and (C := Tryd.checked) (X := fun w _ => laidMetH Tryd.prog Rows.fnBeginsRow.laid w) (fun _ _ _ hh h => h.of_heap hh) Tryd.own started (by kernel_rfl) Tryd.func3
    (ChangeSpec.witness_at (enc := enc) (C := Tryd.checked) (os := os) (X := fun w _ => laidMetH Tryd.prog Rows.fnBeginsRow.laid w) false (laidWorld os) #[.slice none 0 0] 8 rfl (by kernel_rfl) (by kernel_rfl) (by kernel_rfl) (by kernel_rfl) (by kernel_rfl) (laidWorld_met os _)) ?_
  intro W base args ds gs before hval0 hW _ _ hL _
  have hval : ∀ (j : Nat) t v, Tryd.f3.params[j]? = some t → args[j]? = some v → Value.okWide Tryd.prog W .any base t v := hval0
  have hW' := hW
  obtain ⟨p, q, hA0, hV0, rfl, hfz, hnd⟩ := hW
  have hA : DataW.TrodAll enc Tryd.prog W 0 (fun _ => true) true Tryd.f3.params.toList args.toList ds p := hA0
  have hV : DataW.TrodVars enc Tryd.prog W (fun _ => true) [] gs q := hV0
  rw [Tryd.params3] at hA hval
  obtain ⟨v0, d0, rfl, rfl, h0⟩ := trodAll_one hA
  obtain ⟨rfl, rfl⟩ := trodVars_none hV
  have hs := okWide_slice Tryd.underlying22 (hval 0 22 v0 rfl rfl)
  have h0k := h0
  obtain ⟨fuel, hf⟩ := h0
  clear hA0 hval0
  simp only [List.append_nil] at hW'
  have hlt : ∀ y ∈ p, y.block < W.heap.size := fun y hy => by simpa using hW'.lt y hy
  have e1 : Rows.fnBeginsSpec.fn H ([d0] ++ []) = { results := [.lit (.bool true)], args := [d0] } := rfl
  refine (run_arg (good_of_laid hL) hs hf).mono fun e W' ⟨he, bel⟩ => ?_
  subst he
  refine ⟨_, rfl, _, _, _, [], p, [], hW', ?_, ?_, ?_, bel.frame _, fun h => by cases h⟩
  · rw [e1]; exact trodAll_mk1 (shut_bool Tryd.underlying4 true)
  · rw [e1]; exact trodAll_mk1 (Below.trod Tryd.laidOut (by kernel_rfl) (of_decide_eq_true (by kernel_rfl)) h0k bel hlt)
  · rw [e1]; rfl

theorem fnBegins_holds : Rows.FnBeginsSaid :=
  OpenClaim.holds_of_wide 3 Tryd.f3 rfl rfl rfl rfl rfl rfl rfl ⟨rfl, rfl, rfl, rfl, rfl⟩ rfl rfl rfl rfl rfl (by kernel_rfl) Tryd.func3 (by kernel_rfl)
    (of_decide_eq_true (by kernel_rfl)) (by unfold Func.isWrapper; rw [if_neg (of_decide_eq_false (by kernel_rfl))]; exact ⟨rfl, rfl⟩)
    (fun os started H enc _ => fnBegins_lifted os started H enc)

theorem fnBeginsCard_holds : Rows.FnBeginsCardSaid :=
  Claim7.holds_tied_plain_at .later [] [.data, .data, .data] true (true, "a231ef202fb6b9fd5f41cd4e24e53780e0ede5c2cca935e4177d6869042261e4") false
    fnBegins_holds (fun _ h => by cases h) (by kernel_rfl) (fun _ h => by cases h) fnBegins_row_tie rfl ⟨rfl, rfl⟩ (by kernel_rfl) rfl
    (fun f fn hf hfn => by
      obtain rfl : f = 3 := Option.some.inj ((show Tryd.prog.funcNamed "loop.example/g00132/laws.FnBegins" = some 3 by kernel_rfl).symm.trans hf) |>.symm
      obtain rfl : fn = Tryd.f3 := (Option.some.inj (Tryd.func3.symm.trans hfn)).symm
      exact ⟨by kernel_rfl, fun j t ht => by
        rw [Tryd.params3] at ht
        have h3 : t = 22 := by
          rcases j with _ | j
          · simpa using ht.symm
          · simp at ht
        subst h3
        exact (show Tryd.prog.wantsStandIn 22 = false by kernel_rfl)⟩)
    (by kernel_rfl)
#print axioms fnBeginsCard_holds

end Go.Proofs.YtpjkammmoaeheaaDoor
