/- What the calculus asks of this program's functions, first part (printed by program, checked by the kernel). -/
import Derived.Test.YtpjkammmoaeheaaDoorG9

/- The functions of this seat by their names. -/
namespace Go.Proofs.YtpjkammmoaeheaaDoor.Aw
abbrev laws_FnBegins : Nat := 3
abbrev impl_EndsAt : Nat := 7
abbrev impl_Nullable : Nat := 11
abbrev spec_l4Case : Nat := 15
abbrev spec_RxOk : Nat := 19
abbrev impl_within : Nat := 23
abbrev impl_Joined : Nat := 27
abbrev impl_ClassOk : Nat := 31
abbrev spec_l1Rd_sample : Nat := 35
abbrev spec_l1Rd_near : Nat := 39
abbrev impl_nodeOk : Nat := 43
abbrev impl_combined : Nat := 47
abbrev spec_l1Rd_oddClass : Nat := 51
abbrev spec_l1Marks : Nat := 55
abbrev impl_kidsOf : Nat := 59
abbrev internal_strconv_FormatInt : Nat := 63
abbrev impl_places_same : Nat := 67
abbrev spec_l1Class : Nat := 71
abbrev internal_strconv_formatBase10 : Nat := 75
abbrev impl_places_without : Nat := 79
abbrev internal_strconv_bool2_int : Nat := 83
abbrev math_bits_TrailingZeros32 : Nat := 87
abbrev laws_big : Nat := 4
abbrev laws_sameInts : Nat := 8
abbrev impl_ClassHas : Nat := 12
abbrev spec_l1Rd_once : Nat := 16
abbrev spec_l1In : Nat := 20
abbrev impl_length : Nat := 24
abbrev impl_Rx_first : Nat := 28
abbrev impl_bytesOf : Nat := 32
abbrev spec_l1Rd_text : Nat := 36
abbrev spec_l3Node : Nat := 40
abbrev strconv_FormatInt : Nat := 44
abbrev impl_Joined_1 : Nat := 48
abbrev spec_l1Rd_word : Nat := 52
abbrev spec_l4Memo_step : Nat := 56
abbrev slices_ContainsFunc_int64_int64 : Nat := 60
abbrev internal_strconv_AppendInt : Nat := 64
abbrev impl_bytes256_class : Nat := 68
abbrev slices_IndexFunc_int64_int64 : Nat := 72
abbrev internal_strconv_formatBits : Nat := 76
abbrev spec_Without : Nat := 80
abbrev internal_strconv_isPowerOfTwo : Nat := 84
abbrev math_bits_TrailingZeros64 : Nat := 88
abbrev spec_DrawEndsAt : Nat := 5
abbrev impl_FirstOf : Nat := 9
abbrev impl_Longest : Nat := 13
abbrev spec_l1Rd_below : Nat := 17
abbrev spec_l4Memo_ends : Nat := 21
abbrev impl_matcher_ends : Nat := 25
abbrev impl_Rx_shortest : Nat := 29
abbrev spec_l1Rd_rx : Nat := 33
abbrev spec_l1Rd_oddRx : Nat := 37
abbrev spec_l4Memo_find : Nat := 41
abbrev strconv_AppendInt : Nat := 45
abbrev spec_l1Rd_grow : Nat := 49
abbrev spec_l3Kids : Nat := 53
abbrev spec_l4Or : Nat := 57
abbrev impl_nodeOk_1 : Nat := 61
abbrev impl_places_with : Nat := 65
abbrev spec_l1Rd_class : Nat := 69
abbrev internal_strconv_small : Nat := 73
abbrev internal_strconv_AppendUint : Nat := 77
abbrev internal_strconv_log10Pow2 : Nat := 81
abbrev math_bits_TrailingZeros : Nat := 85
abbrev spec_EndsAt : Nat := 6
abbrev impl_Shortest : Nat := 10
abbrev spec_l1Open : Nat := 14
abbrev spec_l1Rd_off : Nat := 18
abbrev impl_RxOk : Nat := 22
abbrev impl_Rx_last : Nat := 26
abbrev impl_Rx_nullable : Nat := 30
abbrev spec_l1Rd_deep : Nat := 34
abbrev spec_l1Rd_next : Nat := 38
abbrev impl_size_impl_RNode : Nat := 42
abbrev impl_matcher_endsOf : Nat := 46
abbrev spec_ClassOf : Nat := 50
abbrev spec_ClassOk : Nat := 54
abbrev spec_l4Memo_again : Nat := 58
abbrev impl_timesOk : Nat := 62
abbrev impl_matcher_repeat : Nat := 66
abbrev spec_Others : Nat := 70
abbrev internal_strconv_numDigits : Nat := 74
abbrev impl_places_isEmpty : Nat := 78
abbrev math_bits_Len64 : Nat := 82
abbrev spec_l1Both : Nat := 86
end Go.Proofs.YtpjkammmoaeheaaDoor.Aw

/- What the calculus asks of the code of each function: printed by a program of this claim's own (wip/aw/Gen.lean, mkw.py), checked by the kernel. -/
set_option maxRecDepth 100000
set_option linter.unusedVariables false
namespace Go.Proofs.YtpjkammmoaeheaaDoor.Aw
open Go Go.RowKit

variable {D : Den} {R : V → AH → Prop} {K1 K2 K3 K4 : Env → AH → Prop} {H0 : AH}

/-! ### internal_strconv_formatBase10 -/
noncomputable def internal_strconv_formatBase10_b : Code := (Go.Proofs.Tryd.f75.body).getD .skip
noncomputable abbrev internal_strconv_formatBase10_p (R : V → AH → Prop) : APost := postK prog (Go.Proofs.Tryd.f75.results.toList) R
def J_internal_strconv_formatBase10_1 (D : Den) (R : V → AH → Prop) (env : Env) (H : AH) : Prop := D (cAt [1, 1] internal_strconv_formatBase10_b) [] [] env H (internal_strconv_formatBase10_p R)
def L_internal_strconv_formatBase10_2 (D : Den) (R : V → AH → Prop) (env : Env) (H : AH) (K1 : Env → AH → Prop) : Prop := D (cAt [1, 0, 0, 0] internal_strconv_formatBase10_b) [(0, [1, 4, 0])] [1, 4, 0] env H (seqQ (fun e H => K1 (keepE e [1, 4, 0]) H) (blockQ 0 (seqQ (fun e H => J_internal_strconv_formatBase10_1 D R (keepE e [1, 4, 0]) H) (internal_strconv_formatBase10_p R))))
def J_internal_strconv_formatBase10_3 (D : Den) (R : V → AH → Prop) (K1 : Env → AH → Prop) (env : Env) (H : AH) : Prop := D (cAt [1, 0, 0, 0, 1] internal_strconv_formatBase10_b) [(0, [1, 4, 0])] [1, 4, 0] env H (seqQ (fun e H => K1 (keepE e [1, 4, 0]) H) (blockQ 0 (seqQ (fun e H => J_internal_strconv_formatBase10_1 D R (keepE e [1, 4, 0]) H) (internal_strconv_formatBase10_p R))))
def J_internal_strconv_formatBase10_4 (D : Den) (R : V → AH → Prop) (env : Env) (H : AH) : Prop := D (cAt [1, 1, 1, 1] internal_strconv_formatBase10_b) [] [] env H (internal_strconv_formatBase10_p R)
def J_internal_strconv_formatBase10_5 (D : Den) (R : V → AH → Prop) (env : Env) (H : AH) : Prop := D (cAt [1, 1, 1, 1, 1] internal_strconv_formatBase10_b) [] [] env H (internal_strconv_formatBase10_p R)
theorem internal_strconv_formatBase10_in {args : List V} {H : AH} {R : V → AH → Prop} (h : ∀ D, IsD 167 [] D → D internal_strconv_formatBase10_b [] [] (argEnv 0 args) H (internal_strconv_formatBase10_p R)) (hn : args.length ≤ 167 := by exact of_decide_eq_true rfl) : CallsA prog internal_strconv_formatBase10 args H R := callsD_of Go.Proofs.Tryd.func75 (by kernel_rfl) (by kernel_rfl) (by kernel_rfl) (enters_of Go.Proofs.Tryd.func75 (by kernel_rfl) rfl) hn h
theorem internal_strconv_formatBase10_eq (hD : IsD 167 [] D) {a_b0 a_i0 a_n0 : Nat} {a_c0 : Cap} {u0 : Int} {H0 : AH} : D internal_strconv_formatBase10_b [] [] (argEnv 0 [V.sl a_b0 a_i0 a_n0 a_c0, V.int IntKind.u64 u0]) H0 (internal_strconv_formatBase10_p R) = (
  LoopI (L_internal_strconv_formatBase10_2 D R) [(1, V.int IntKind.u64 u0), (4, V.int IntKind.i64 (↑a_n0 : Int)), (0, V.sl a_b0 a_i0 a_n0 a_c0)] H0) := (hD _ _ _ _ _ _).trans (by kernel_rfl)
theorem L_internal_strconv_formatBase10_2_eq (hD : IsD 167 [] D) {u0 nd0 : Int} {a_b0 a_i0 a_n0 : Nat} {a_c0 : Cap} {H0 : AH} : L_internal_strconv_formatBase10_2 D R [(1, V.int IntKind.u64 u0), (4, V.int IntKind.i64 nd0), (0, V.sl a_b0 a_i0 a_n0 a_c0)] H0 K1 = (
  splitB (decide (nd0 ≥ 8)) (J_internal_strconv_formatBase10_3 D R K1 [(1, V.int IntKind.u64 u0), (4, V.int IntKind.i64 nd0), (0, V.sl a_b0 a_i0 a_n0 a_c0)] H0)
  (J_internal_strconv_formatBase10_1 D R [(1, V.int IntKind.u64 u0), (4, V.int IntKind.i64 nd0), (0, V.sl a_b0 a_i0 a_n0 a_c0)] H0)) := (hD _ _ _ _ _ _).trans (by kernel_rfl)
theorem J_internal_strconv_formatBase10_3_eq (hD : IsD 167 [] D) {u0 nd0 : Int} {a_b0 a_i0 a_n0 : Nat} {a_c0 : Cap} {H0 : AH} : J_internal_strconv_formatBase10_3 D R K1 [(1, V.int IntKind.u64 u0), (4, V.int IntKind.i64 nd0), (0, V.sl a_b0 a_i0 a_n0 a_c0)] H0 = (
  nz 100000000 ∧
  nz 100000000 ∧
    nz 10000 ∧
      nz 10000 ∧
        nz 100 ∧
          nz 100 ∧
            nz 100 ∧
              nz 100 ∧
                inB (IntKind.u32.wrap (IntKind.u32.wrap (((IntKind.u32.wrap (u0.tmod 100000000)).tmod 10000).tmod 100 * 2) + 1)) 200 ∧
                  inB (IntKind.u32.wrap (((IntKind.u32.wrap (u0.tmod 100000000)).tmod 10000).tmod 100 * 2)) 200 ∧
                    inB (IntKind.i64.wrap (nd0 - 1)) a_n0 ∧
                      stK H0 a_b0 (a_i0 + (IntKind.i64.wrap (nd0 - 1)).toNat * 1)
                        [V.int IntKind.u8
                            (↑(byteAt
                                    [48, 48, 48, 49, 48, 50, 48, 51, 48, 52, 48, 53, 48, 54, 48, 55, 48, 56, 48, 57, 49, 48, 49, 49, 49, 50, 49, 51, 49, 52, 49, 53, 49, 54, 49, 55, 49, 56, 49, 57, 50,
                                      48, 50, 49, 50, 50, 50, 51, 50, 52, 50, 53, 50, 54, 50, 55, 50, 56, 50, 57, 51, 48, 51, 49, 51, 50, 51, 51, 51, 52, 51, 53, 51, 54, 51, 55, 51, 56, 51, 57, 52,
                                      48, 52, 49, 52, 50, 52, 51, 52, 52, 52, 53, 52, 54, 52, 55, 52, 56, 52, 57, 53, 48, 53, 49, 53, 50, 53, 51, 53, 52, 53, 53, 53, 54, 53, 55, 53, 56, 53, 57, 54,
                                      48, 54, 49, 54, 50, 54, 51, 54, 52, 54, 53, 54, 54, 54, 55, 54, 56, 54, 57, 55, 48, 55, 49, 55, 50, 55, 51, 55, 52, 55, 53, 55, 54, 55, 55, 55, 56, 55, 57, 56,
                                      48, 56, 49, 56, 50, 56, 51, 56, 52, 56, 53, 56, 54, 56, 55, 56, 56, 56, 57, 57, 48, 57, 49, 57, 50, 57, 51, 57, 52, 57, 53, 57, 54, 57, 55, 57, 56, 57, 57]
                                    (IntKind.u32.wrap (IntKind.u32.wrap (((IntKind.u32.wrap (u0.tmod 100000000)).tmod 10000).tmod 100 * 2) + 1))).toNat :
                              Int)]
                        fun H1 =>
                        inB (IntKind.i64.wrap (nd0 - 2)) a_n0 ∧
                          stK H1 a_b0 (a_i0 + (IntKind.i64.wrap (nd0 - 2)).toNat * 1)
                            [V.int IntKind.u8
                                (↑(byteAt
                                        [48, 48, 48, 49, 48, 50, 48, 51, 48, 52, 48, 53, 48, 54, 48, 55, 48, 56, 48, 57, 49, 48, 49, 49, 49, 50, 49, 51, 49, 52, 49, 53, 49, 54, 49, 55, 49, 56, 49, 57,
                                          50, 48, 50, 49, 50, 50, 50, 51, 50, 52, 50, 53, 50, 54, 50, 55, 50, 56, 50, 57, 51, 48, 51, 49, 51, 50, 51, 51, 51, 52, 51, 53, 51, 54, 51, 55, 51, 56, 51,
                                          57, 52, 48, 52, 49, 52, 50, 52, 51, 52, 52, 52, 53, 52, 54, 52, 55, 52, 56, 52, 57, 53, 48, 53, 49, 53, 50, 53, 51, 53, 52, 53, 53, 53, 54, 53, 55, 53, 56,
                                          53, 57, 54, 48, 54, 49, 54, 50, 54, 51, 54, 52, 54, 53, 54, 54, 54, 55, 54, 56, 54, 57, 55, 48, 55, 49, 55, 50, 55, 51, 55, 52, 55, 53, 55, 54, 55, 55, 55,
                                          56, 55, 57, 56, 48, 56, 49, 56, 50, 56, 51, 56, 52, 56, 53, 56, 54, 56, 55, 56, 56, 56, 57, 57, 48, 57, 49, 57, 50, 57, 51, 57, 52, 57, 53, 57, 54, 57, 55,
                                          57, 56, 57, 57]
                                        (IntKind.u32.wrap (((IntKind.u32.wrap (u0.tmod 100000000)).tmod 10000).tmod 100 * 2))).toNat :
                                  Int)]
                            fun H2 =>
                            inB (IntKind.u32.wrap (IntKind.u32.wrap (IntKind.u32.wrap (((IntKind.u32.wrap (u0.tmod 100000000)).tmod 10000).tdiv 100) * 2) + 1)) 200 ∧
                              inB (IntKind.u32.wrap (IntKind.u32.wrap (((IntKind.u32.wrap (u0.tmod 100000000)).tmod 10000).tdiv 100) * 2)) 200 ∧
                                inB (IntKind.i64.wrap (nd0 - 3)) a_n0 ∧
                                  stK H2 a_b0 (a_i0 + (IntKind.i64.wrap (nd0 - 3)).toNat * 1)
                                    [V.int IntKind.u8
                                        (↑(byteAt
                                                [48, 48, 48, 49, 48, 50, 48, 51, 48, 52, 48, 53, 48, 54, 48, 55, 48, 56, 48, 57, 49, 48, 49, 49, 49, 50, 49, 51, 49, 52, 49, 53, 49, 54, 49, 55, 49, 56,
                                                  49, 57, 50, 48, 50, 49, 50, 50, 50, 51, 50, 52, 50, 53, 50, 54, 50, 55, 50, 56, 50, 57, 51, 48, 51, 49, 51, 50, 51, 51, 51, 52, 51, 53, 51, 54, 51,
                                                  55, 51, 56, 51, 57, 52, 48, 52, 49, 52, 50, 52, 51, 52, 52, 52, 53, 52, 54, 52, 55, 52, 56, 52, 57, 53, 48, 53, 49, 53, 50, 53, 51, 53, 52, 53, 53,
                                                  53, 54, 53, 55, 53, 56, 53, 57, 54, 48, 54, 49, 54, 50, 54, 51, 54, 52, 54, 53, 54, 54, 54, 55, 54, 56, 54, 57, 55, 48, 55, 49, 55, 50, 55, 51, 55,
                                                  52, 55, 53, 55, 54, 55, 55, 55, 56, 55, 57, 56, 48, 56, 49, 56, 50, 56, 51, 56, 52, 56, 53, 56, 54, 56, 55, 56, 56, 56, 57, 57, 48, 57, 49, 57, 50,
                                                  57, 51, 57, 52, 57, 53, 57, 54, 57, 55, 57, 56, 57, 57]
                                                (IntKind.u32.wrap (IntKind.u32.wrap (IntKind.u32.wrap (((IntKind.u32.wrap (u0.tmod 100000000)).tmod 10000).tdiv 100) * 2) + 1))).toNat :
                                          Int)]
                                    fun H3 =>
                                    inB (IntKind.i64.wrap (nd0 - 4)) a_n0 ∧
                                      stK H3 a_b0 (a_i0 + (IntKind.i64.wrap (nd0 - 4)).toNat * 1)
                                        [V.int IntKind.u8
                                            (↑(byteAt
                                                    [48, 48, 48, 49, 48, 50, 48, 51, 48, 52, 48, 53, 48, 54, 48, 55, 48, 56, 48, 57, 49, 48, 49, 49, 49, 50, 49, 51, 49, 52, 49, 53, 49, 54, 49, 55, 49,
                                                      56, 49, 57, 50, 48, 50, 49, 50, 50, 50, 51, 50, 52, 50, 53, 50, 54, 50, 55, 50, 56, 50, 57, 51, 48, 51, 49, 51, 50, 51, 51, 51, 52, 51, 53, 51,
                                                      54, 51, 55, 51, 56, 51, 57, 52, 48, 52, 49, 52, 50, 52, 51, 52, 52, 52, 53, 52, 54, 52, 55, 52, 56, 52, 57, 53, 48, 53, 49, 53, 50, 53, 51, 53,
                                                      52, 53, 53, 53, 54, 53, 55, 53, 56, 53, 57, 54, 48, 54, 49, 54, 50, 54, 51, 54, 52, 54, 53, 54, 54, 54, 55, 54, 56, 54, 57, 55, 48, 55, 49, 55,
                                                      50, 55, 51, 55, 52, 55, 53, 55, 54, 55, 55, 55, 56, 55, 57, 56, 48, 56, 49, 56, 50, 56, 51, 56, 52, 56, 53, 56, 54, 56, 55, 56, 56, 56, 57, 57,
                                                      48, 57, 49, 57, 50, 57, 51, 57, 52, 57, 53, 57, 54, 57, 55, 57, 56, 57, 57]
                                                    (IntKind.u32.wrap (IntKind.u32.wrap (((IntKind.u32.wrap (u0.tmod 100000000)).tmod 10000).tdiv 100) * 2))).toNat :
                                              Int)]
                                        fun H4 =>
                                        inB (IntKind.u32.wrap (IntKind.u32.wrap ((IntKind.u32.wrap ((IntKind.u32.wrap (u0.tmod 100000000)).tdiv 10000)).tmod 100 * 2) + 1)) 200 ∧
                                          inB (IntKind.u32.wrap ((IntKind.u32.wrap ((IntKind.u32.wrap (u0.tmod 100000000)).tdiv 10000)).tmod 100 * 2)) 200 ∧
                                            inB (IntKind.i64.wrap (nd0 - 5)) a_n0 ∧
                                              stK H4 a_b0 (a_i0 + (IntKind.i64.wrap (nd0 - 5)).toNat * 1)
                                                [V.int IntKind.u8
                                                    (↑(byteAt
                                                            [48, 48, 48, 49, 48, 50, 48, 51, 48, 52, 48, 53, 48, 54, 48, 55, 48, 56, 48, 57, 49, 48, 49, 49, 49, 50, 49, 51, 49, 52, 49, 53, 49, 54, 49,
                                                              55, 49, 56, 49, 57, 50, 48, 50, 49, 50, 50, 50, 51, 50, 52, 50, 53, 50, 54, 50, 55, 50, 56, 50, 57, 51, 48, 51, 49, 51, 50, 51, 51, 51,
                                                              52, 51, 53, 51, 54, 51, 55, 51, 56, 51, 57, 52, 48, 52, 49, 52, 50, 52, 51, 52, 52, 52, 53, 52, 54, 52, 55, 52, 56, 52, 57, 53, 48, 53,
                                                              49, 53, 50, 53, 51, 53, 52, 53, 53, 53, 54, 53, 55, 53, 56, 53, 57, 54, 48, 54, 49, 54, 50, 54, 51, 54, 52, 54, 53, 54, 54, 54, 55, 54,
                                                              56, 54, 57, 55, 48, 55, 49, 55, 50, 55, 51, 55, 52, 55, 53, 55, 54, 55, 55, 55, 56, 55, 57, 56, 48, 56, 49, 56, 50, 56, 51, 56, 52, 56,
                                                              53, 56, 54, 56, 55, 56, 56, 56, 57, 57, 48, 57, 49, 57, 50, 57, 51, 57, 52, 57, 53, 57, 54, 57, 55, 57, 56, 57, 57]
                                                            (IntKind.u32.wrap (IntKind.u32.wrap ((IntKind.u32.wrap ((IntKind.u32.wrap (u0.tmod 100000000)).tdiv 10000)).tmod 100 * 2) + 1))).toNat :
                                                      Int)]
                                                fun H5 =>
                                                inB (IntKind.i64.wrap (nd0 - 6)) a_n0 ∧
                                                  stK H5 a_b0 (a_i0 + (IntKind.i64.wrap (nd0 - 6)).toNat * 1)
                                                    [V.int IntKind.u8
                                                        (↑(byteAt
                                                                [48, 48, 48, 49, 48, 50, 48, 51, 48, 52, 48, 53, 48, 54, 48, 55, 48, 56, 48, 57, 49, 48, 49, 49, 49, 50, 49, 51, 49, 52, 49, 53, 49, 54,
                                                                  49, 55, 49, 56, 49, 57, 50, 48, 50, 49, 50, 50, 50, 51, 50, 52, 50, 53, 50, 54, 50, 55, 50, 56, 50, 57, 51, 48, 51, 49, 51, 50, 51,
                                                                  51, 51, 52, 51, 53, 51, 54, 51, 55, 51, 56, 51, 57, 52, 48, 52, 49, 52, 50, 52, 51, 52, 52, 52, 53, 52, 54, 52, 55, 52, 56, 52, 57,
                                                                  53, 48, 53, 49, 53, 50, 53, 51, 53, 52, 53, 53, 53, 54, 53, 55, 53, 56, 53, 57, 54, 48, 54, 49, 54, 50, 54, 51, 54, 52, 54, 53, 54,
                                                                  54, 54, 55, 54, 56, 54, 57, 55, 48, 55, 49, 55, 50, 55, 51, 55, 52, 55, 53, 55, 54, 55, 55, 55, 56, 55, 57, 56, 48, 56, 49, 56, 50,
                                                                  56, 51, 56, 52, 56, 53, 56, 54, 56, 55, 56, 56, 56, 57, 57, 48, 57, 49, 57, 50, 57, 51, 57, 52, 57, 53, 57, 54, 57, 55, 57, 56, 57,
                                                                  57]
                                                                (IntKind.u32.wrap ((IntKind.u32.wrap ((IntKind.u32.wrap (u0.tmod 100000000)).tdiv 10000)).tmod 100 * 2))).toNat :
                                                          Int)]
                                                    fun H6 =>
                                                    inB
                                                        (IntKind.u32.wrap
                                                          (IntKind.u32.wrap (IntKind.u32.wrap ((IntKind.u32.wrap ((IntKind.u32.wrap (u0.tmod 100000000)).tdiv 10000)).tdiv 100) * 2) + 1))
                                                        200 ∧
                                                      inB (IntKind.u32.wrap (IntKind.u32.wrap ((IntKind.u32.wrap ((IntKind.u32.wrap (u0.tmod 100000000)).tdiv 10000)).tdiv 100) * 2)) 200 ∧
                                                        inB (IntKind.i64.wrap (nd0 - 7)) a_n0 ∧
                                                          stK H6 a_b0 (a_i0 + (IntKind.i64.wrap (nd0 - 7)).toNat * 1)
                                                            [V.int IntKind.u8
                                                                (↑(byteAt
                                                                        [48, 48, 48, 49, 48, 50, 48, 51, 48, 52, 48, 53, 48, 54, 48, 55, 48, 56, 48, 57, 49, 48, 49, 49, 49, 50, 49, 51, 49, 52, 49, 53,
                                                                          49, 54, 49, 55, 49, 56, 49, 57, 50, 48, 50, 49, 50, 50, 50, 51, 50, 52, 50, 53, 50, 54, 50, 55, 50, 56, 50, 57, 51, 48, 51,
                                                                          49, 51, 50, 51, 51, 51, 52, 51, 53, 51, 54, 51, 55, 51, 56, 51, 57, 52, 48, 52, 49, 52, 50, 52, 51, 52, 52, 52, 53, 52, 54,
                                                                          52, 55, 52, 56, 52, 57, 53, 48, 53, 49, 53, 50, 53, 51, 53, 52, 53, 53, 53, 54, 53, 55, 53, 56, 53, 57, 54, 48, 54, 49, 54,
                                                                          50, 54, 51, 54, 52, 54, 53, 54, 54, 54, 55, 54, 56, 54, 57, 55, 48, 55, 49, 55, 50, 55, 51, 55, 52, 55, 53, 55, 54, 55, 55,
                                                                          55, 56, 55, 57, 56, 48, 56, 49, 56, 50, 56, 51, 56, 52, 56, 53, 56, 54, 56, 55, 56, 56, 56, 57, 57, 48, 57, 49, 57, 50, 57,
                                                                          51, 57, 52, 57, 53, 57, 54, 57, 55, 57, 56, 57, 57]
                                                                        (IntKind.u32.wrap
                                                                          (IntKind.u32.wrap (IntKind.u32.wrap ((IntKind.u32.wrap ((IntKind.u32.wrap (u0.tmod 100000000)).tdiv 10000)).tdiv 100) * 2) +
                                                                            1))).toNat :
                                                                  Int)]
                                                            fun H7 =>
                                                            inB (IntKind.i64.wrap (nd0 - 8)) a_n0 ∧
                                                              stK H7 a_b0 (a_i0 + (IntKind.i64.wrap (nd0 - 8)).toNat * 1)
                                                                [V.int IntKind.u8
                                                                    (↑(byteAt
                                                                            [48, 48, 48, 49, 48, 50, 48, 51, 48, 52, 48, 53, 48, 54, 48, 55, 48, 56, 48, 57, 49, 48, 49, 49, 49, 50, 49, 51, 49, 52, 49,
                                                                              53, 49, 54, 49, 55, 49, 56, 49, 57, 50, 48, 50, 49, 50, 50, 50, 51, 50, 52, 50, 53, 50, 54, 50, 55, 50, 56, 50, 57, 51,
                                                                              48, 51, 49, 51, 50, 51, 51, 51, 52, 51, 53, 51, 54, 51, 55, 51, 56, 51, 57, 52, 48, 52, 49, 52, 50, 52, 51, 52, 52, 52,
                                                                              53, 52, 54, 52, 55, 52, 56, 52, 57, 53, 48, 53, 49, 53, 50, 53, 51, 53, 52, 53, 53, 53, 54, 53, 55, 53, 56, 53, 57, 54,
                                                                              48, 54, 49, 54, 50, 54, 51, 54, 52, 54, 53, 54, 54, 54, 55, 54, 56, 54, 57, 55, 48, 55, 49, 55, 50, 55, 51, 55, 52, 55,
                                                                              53, 55, 54, 55, 55, 55, 56, 55, 57, 56, 48, 56, 49, 56, 50, 56, 51, 56, 52, 56, 53, 56, 54, 56, 55, 56, 56, 56, 57, 57,
                                                                              48, 57, 49, 57, 50, 57, 51, 57, 52, 57, 53, 57, 54, 57, 55, 57, 56, 57, 57]
                                                                            (IntKind.u32.wrap
                                                                              (IntKind.u32.wrap ((IntKind.u32.wrap ((IntKind.u32.wrap (u0.tmod 100000000)).tdiv 10000)).tdiv 100) * 2))).toNat :
                                                                      Int)]
                                                                fun H8 =>
                                                                K1
                                                                  [(1, V.int IntKind.u64 (IntKind.u64.wrap (u0.tdiv 100000000))), (4, V.int IntKind.i64 (IntKind.i64.wrap (nd0 - 8))),
                                                                    (0, V.sl a_b0 a_i0 a_n0 a_c0)]
                                                                  H8) := (hD _ _ _ _ _ _).trans (by kernel_rfl)
theorem J_internal_strconv_formatBase10_1_eq (hD : IsD 167 [] D) {u0 nd0 : Int} {a_b0 a_i0 a_n0 : Nat} {a_c0 : Cap} {H0 : AH} : J_internal_strconv_formatBase10_1 D R [(1, V.int IntKind.u64 u0), (4, V.int IntKind.i64 nd0), (0, V.sl a_b0 a_i0 a_n0 a_c0)] H0 = (
  splitB (decide (nd0 ≥ 4))
  (nz 10000 ∧
    nz 10000 ∧
      nz 100 ∧
        nz 100 ∧
          inB (IntKind.u32.wrap (IntKind.u32.wrap (((IntKind.u32.wrap u0).tmod 10000).tmod 100 * 2) + 1)) 200 ∧
            inB (IntKind.u32.wrap (((IntKind.u32.wrap u0).tmod 10000).tmod 100 * 2)) 200 ∧
              inB (IntKind.i64.wrap (nd0 - 1)) a_n0 ∧
                stK H0 a_b0 (a_i0 + (IntKind.i64.wrap (nd0 - 1)).toNat * 1)
                  [V.int IntKind.u8
                      (↑(byteAt
                              [48, 48, 48, 49, 48, 50, 48, 51, 48, 52, 48, 53, 48, 54, 48, 55, 48, 56, 48, 57, 49, 48, 49, 49, 49, 50, 49, 51, 49, 52, 49, 53, 49, 54, 49, 55, 49, 56, 49, 57, 50, 48,
                                50, 49, 50, 50, 50, 51, 50, 52, 50, 53, 50, 54, 50, 55, 50, 56, 50, 57, 51, 48, 51, 49, 51, 50, 51, 51, 51, 52, 51, 53, 51, 54, 51, 55, 51, 56, 51, 57, 52, 48, 52, 49,
                                52, 50, 52, 51, 52, 52, 52, 53, 52, 54, 52, 55, 52, 56, 52, 57, 53, 48, 53, 49, 53, 50, 53, 51, 53, 52, 53, 53, 53, 54, 53, 55, 53, 56, 53, 57, 54, 48, 54, 49, 54, 50,
                                54, 51, 54, 52, 54, 53, 54, 54, 54, 55, 54, 56, 54, 57, 55, 48, 55, 49, 55, 50, 55, 51, 55, 52, 55, 53, 55, 54, 55, 55, 55, 56, 55, 57, 56, 48, 56, 49, 56, 50, 56, 51,
                                56, 52, 56, 53, 56, 54, 56, 55, 56, 56, 56, 57, 57, 48, 57, 49, 57, 50, 57, 51, 57, 52, 57, 53, 57, 54, 57, 55, 57, 56, 57, 57]
                              (IntKind.u32.wrap (IntKind.u32.wrap (((IntKind.u32.wrap u0).tmod 10000).tmod 100 * 2) + 1))).toNat :
                        Int)]
                  fun H1 =>
                  inB (IntKind.i64.wrap (nd0 - 2)) a_n0 ∧
                    stK H1 a_b0 (a_i0 + (IntKind.i64.wrap (nd0 - 2)).toNat * 1)
                      [V.int IntKind.u8
                          (↑(byteAt
                                  [48, 48, 48, 49, 48, 50, 48, 51, 48, 52, 48, 53, 48, 54, 48, 55, 48, 56, 48, 57, 49, 48, 49, 49, 49, 50, 49, 51, 49, 52, 49, 53, 49, 54, 49, 55, 49, 56, 49, 57, 50,
                                    48, 50, 49, 50, 50, 50, 51, 50, 52, 50, 53, 50, 54, 50, 55, 50, 56, 50, 57, 51, 48, 51, 49, 51, 50, 51, 51, 51, 52, 51, 53, 51, 54, 51, 55, 51, 56, 51, 57, 52, 48,
                                    52, 49, 52, 50, 52, 51, 52, 52, 52, 53, 52, 54, 52, 55, 52, 56, 52, 57, 53, 48, 53, 49, 53, 50, 53, 51, 53, 52, 53, 53, 53, 54, 53, 55, 53, 56, 53, 57, 54, 48, 54,
                                    49, 54, 50, 54, 51, 54, 52, 54, 53, 54, 54, 54, 55, 54, 56, 54, 57, 55, 48, 55, 49, 55, 50, 55, 51, 55, 52, 55, 53, 55, 54, 55, 55, 55, 56, 55, 57, 56, 48, 56, 49,
                                    56, 50, 56, 51, 56, 52, 56, 53, 56, 54, 56, 55, 56, 56, 56, 57, 57, 48, 57, 49, 57, 50, 57, 51, 57, 52, 57, 53, 57, 54, 57, 55, 57, 56, 57, 57]
                                  (IntKind.u32.wrap (((IntKind.u32.wrap u0).tmod 10000).tmod 100 * 2))).toNat :
                            Int)]
                      fun H2 =>
                      inB (IntKind.u32.wrap (IntKind.u32.wrap (IntKind.u32.wrap (((IntKind.u32.wrap u0).tmod 10000).tdiv 100) * 2) + 1)) 200 ∧
                        inB (IntKind.u32.wrap (IntKind.u32.wrap (((IntKind.u32.wrap u0).tmod 10000).tdiv 100) * 2)) 200 ∧
                          inB (IntKind.i64.wrap (nd0 - 3)) a_n0 ∧
                            stK H2 a_b0 (a_i0 + (IntKind.i64.wrap (nd0 - 3)).toNat * 1)
                              [V.int IntKind.u8
                                  (↑(byteAt
                                          [48, 48, 48, 49, 48, 50, 48, 51, 48, 52, 48, 53, 48, 54, 48, 55, 48, 56, 48, 57, 49, 48, 49, 49, 49, 50, 49, 51, 49, 52, 49, 53, 49, 54, 49, 55, 49, 56, 49,
                                            57, 50, 48, 50, 49, 50, 50, 50, 51, 50, 52, 50, 53, 50, 54, 50, 55, 50, 56, 50, 57, 51, 48, 51, 49, 51, 50, 51, 51, 51, 52, 51, 53, 51, 54, 51, 55, 51, 56,
                                            51, 57, 52, 48, 52, 49, 52, 50, 52, 51, 52, 52, 52, 53, 52, 54, 52, 55, 52, 56, 52, 57, 53, 48, 53, 49, 53, 50, 53, 51, 53, 52, 53, 53, 53, 54, 53, 55, 53,
                                            56, 53, 57, 54, 48, 54, 49, 54, 50, 54, 51, 54, 52, 54, 53, 54, 54, 54, 55, 54, 56, 54, 57, 55, 48, 55, 49, 55, 50, 55, 51, 55, 52, 55, 53, 55, 54, 55, 55,
                                            55, 56, 55, 57, 56, 48, 56, 49, 56, 50, 56, 51, 56, 52, 56, 53, 56, 54, 56, 55, 56, 56, 56, 57, 57, 48, 57, 49, 57, 50, 57, 51, 57, 52, 57, 53, 57, 54, 57,
                                            55, 57, 56, 57, 57]
                                          (IntKind.u32.wrap (IntKind.u32.wrap (IntKind.u32.wrap (((IntKind.u32.wrap u0).tmod 10000).tdiv 100) * 2) + 1))).toNat :
                                    Int)]
                              fun H3 =>
                              inB (IntKind.i64.wrap (nd0 - 4)) a_n0 ∧
                                stK H3 a_b0 (a_i0 + (IntKind.i64.wrap (nd0 - 4)).toNat * 1)
                                  [V.int IntKind.u8
                                      (↑(byteAt
                                              [48, 48, 48, 49, 48, 50, 48, 51, 48, 52, 48, 53, 48, 54, 48, 55, 48, 56, 48, 57, 49, 48, 49, 49, 49, 50, 49, 51, 49, 52, 49, 53, 49, 54, 49, 55, 49, 56,
                                                49, 57, 50, 48, 50, 49, 50, 50, 50, 51, 50, 52, 50, 53, 50, 54, 50, 55, 50, 56, 50, 57, 51, 48, 51, 49, 51, 50, 51, 51, 51, 52, 51, 53, 51, 54, 51, 55,
                                                51, 56, 51, 57, 52, 48, 52, 49, 52, 50, 52, 51, 52, 52, 52, 53, 52, 54, 52, 55, 52, 56, 52, 57, 53, 48, 53, 49, 53, 50, 53, 51, 53, 52, 53, 53, 53, 54,
                                                53, 55, 53, 56, 53, 57, 54, 48, 54, 49, 54, 50, 54, 51, 54, 52, 54, 53, 54, 54, 54, 55, 54, 56, 54, 57, 55, 48, 55, 49, 55, 50, 55, 51, 55, 52, 55, 53,
                                                55, 54, 55, 55, 55, 56, 55, 57, 56, 48, 56, 49, 56, 50, 56, 51, 56, 52, 56, 53, 56, 54, 56, 55, 56, 56, 56, 57, 57, 48, 57, 49, 57, 50, 57, 51, 57, 52,
                                                57, 53, 57, 54, 57, 55, 57, 56, 57, 57]
                                              (IntKind.u32.wrap (IntKind.u32.wrap (((IntKind.u32.wrap u0).tmod 10000).tdiv 100) * 2))).toNat :
                                        Int)]
                                  fun H4 =>
                                  J_internal_strconv_formatBase10_4 D R
                                    [(12, V.int IntKind.u32 (IntKind.u32.wrap ((IntKind.u32.wrap u0).tdiv 10000))), (4, V.int IntKind.i64 (IntKind.i64.wrap (nd0 - 4))), (0, V.sl a_b0 a_i0 a_n0 a_c0)]
                                    H4)
  (J_internal_strconv_formatBase10_4 D R [(12, V.int IntKind.u32 (IntKind.u32.wrap u0)), (4, V.int IntKind.i64 nd0), (0, V.sl a_b0 a_i0 a_n0 a_c0)] H0)) := (hD _ _ _ _ _ _).trans (by kernel_rfl)
theorem J_internal_strconv_formatBase10_4_eq (hD : IsD 167 [] D) {x0 nd0 : Int} {a_b0 a_i0 a_n0 : Nat} {a_c0 : Cap} {H0 : AH} : J_internal_strconv_formatBase10_4 D R [(12, V.int IntKind.u32 x0), (4, V.int IntKind.i64 nd0), (0, V.sl a_b0 a_i0 a_n0 a_c0)] H0 = (
  splitB (decide (nd0 ≥ 2))
  (nz 100 ∧
    nz 100 ∧
      inB (IntKind.u32.wrap (IntKind.u32.wrap (x0.tmod 100 * 2) + 1)) 200 ∧
        inB (IntKind.u32.wrap (x0.tmod 100 * 2)) 200 ∧
          inB (IntKind.i64.wrap (nd0 - 1)) a_n0 ∧
            stK H0 a_b0 (a_i0 + (IntKind.i64.wrap (nd0 - 1)).toNat * 1)
              [V.int IntKind.u8
                  (↑(byteAt
                          [48, 48, 48, 49, 48, 50, 48, 51, 48, 52, 48, 53, 48, 54, 48, 55, 48, 56, 48, 57, 49, 48, 49, 49, 49, 50, 49, 51, 49, 52, 49, 53, 49, 54, 49, 55, 49, 56, 49, 57, 50, 48, 50,
                            49, 50, 50, 50, 51, 50, 52, 50, 53, 50, 54, 50, 55, 50, 56, 50, 57, 51, 48, 51, 49, 51, 50, 51, 51, 51, 52, 51, 53, 51, 54, 51, 55, 51, 56, 51, 57, 52, 48, 52, 49, 52, 50,
                            52, 51, 52, 52, 52, 53, 52, 54, 52, 55, 52, 56, 52, 57, 53, 48, 53, 49, 53, 50, 53, 51, 53, 52, 53, 53, 53, 54, 53, 55, 53, 56, 53, 57, 54, 48, 54, 49, 54, 50, 54, 51, 54,
                            52, 54, 53, 54, 54, 54, 55, 54, 56, 54, 57, 55, 48, 55, 49, 55, 50, 55, 51, 55, 52, 55, 53, 55, 54, 55, 55, 55, 56, 55, 57, 56, 48, 56, 49, 56, 50, 56, 51, 56, 52, 56, 53,
                            56, 54, 56, 55, 56, 56, 56, 57, 57, 48, 57, 49, 57, 50, 57, 51, 57, 52, 57, 53, 57, 54, 57, 55, 57, 56, 57, 57]
                          (IntKind.u32.wrap (IntKind.u32.wrap (x0.tmod 100 * 2) + 1))).toNat :
                    Int)]
              fun H1 =>
              inB (IntKind.i64.wrap (nd0 - 2)) a_n0 ∧
                stK H1 a_b0 (a_i0 + (IntKind.i64.wrap (nd0 - 2)).toNat * 1)
                  [V.int IntKind.u8
                      (↑(byteAt
                              [48, 48, 48, 49, 48, 50, 48, 51, 48, 52, 48, 53, 48, 54, 48, 55, 48, 56, 48, 57, 49, 48, 49, 49, 49, 50, 49, 51, 49, 52, 49, 53, 49, 54, 49, 55, 49, 56, 49, 57, 50, 48,
                                50, 49, 50, 50, 50, 51, 50, 52, 50, 53, 50, 54, 50, 55, 50, 56, 50, 57, 51, 48, 51, 49, 51, 50, 51, 51, 51, 52, 51, 53, 51, 54, 51, 55, 51, 56, 51, 57, 52, 48, 52, 49,
                                52, 50, 52, 51, 52, 52, 52, 53, 52, 54, 52, 55, 52, 56, 52, 57, 53, 48, 53, 49, 53, 50, 53, 51, 53, 52, 53, 53, 53, 54, 53, 55, 53, 56, 53, 57, 54, 48, 54, 49, 54, 50,
                                54, 51, 54, 52, 54, 53, 54, 54, 54, 55, 54, 56, 54, 57, 55, 48, 55, 49, 55, 50, 55, 51, 55, 52, 55, 53, 55, 54, 55, 55, 55, 56, 55, 57, 56, 48, 56, 49, 56, 50, 56, 51,
                                56, 52, 56, 53, 56, 54, 56, 55, 56, 56, 56, 57, 57, 48, 57, 49, 57, 50, 57, 51, 57, 52, 57, 53, 57, 54, 57, 55, 57, 56, 57, 57]
                              (IntKind.u32.wrap (x0.tmod 100 * 2))).toNat :
                        Int)]
                  fun H2 =>
                  J_internal_strconv_formatBase10_5 D R
                    [(4, V.int IntKind.i64 (IntKind.i64.wrap (nd0 - 2))), (0, V.sl a_b0 a_i0 a_n0 a_c0), (12, V.int IntKind.u32 (IntKind.u32.wrap (x0.tdiv 100)))] H2)
  (J_internal_strconv_formatBase10_5 D R [(4, V.int IntKind.i64 nd0), (0, V.sl a_b0 a_i0 a_n0 a_c0), (12, V.int IntKind.u32 x0)] H0)) := (hD _ _ _ _ _ _).trans (by kernel_rfl)
theorem J_internal_strconv_formatBase10_5_eq (hD : IsD 167 [] D) {nd0 : Int} {a_b0 a_i0 a_n0 : Nat} {a_c0 : Cap} {x0 : Int} {H0 : AH} : J_internal_strconv_formatBase10_5 D R [(4, V.int IntKind.i64 nd0), (0, V.sl a_b0 a_i0 a_n0 a_c0), (12, V.int IntKind.u32 x0)] H0 = (
  splitB (decide (nd0 > 0)) (inB 0 a_n0 ∧ stK H0 a_b0 a_i0 [V.int IntKind.u8 (IntKind.u8.wrap (IntKind.u32.wrap (48 + x0)))] fun H1 => R (V.tup []) H1) (R (V.tup []) H0)) := (hD _ _ _ _ _ _).trans (by kernel_rfl)

/-! ### spec_l1Rd_grow -/
noncomputable def spec_l1Rd_grow_b : Code := (Go.Proofs.Tryd.f49.body).getD .skip
noncomputable abbrev spec_l1Rd_grow_p (R : V → AH → Prop) : APost := postK prog (Go.Proofs.Tryd.f49.results.toList) R
def J_spec_l1Rd_grow_1 (D : Den) (R : V → AH → Prop) (env : Env) (H : AH) : Prop := D (cAt [1, 1, 1] spec_l1Rd_grow_b) [] [] env H (spec_l1Rd_grow_p R)
def J_spec_l1Rd_grow_2 (D : Den) (R : V → AH → Prop) (env : Env) (H : AH) : Prop := D (cAt [1, 1, 0, 1] spec_l1Rd_grow_b) [] [2, 7, 0, 1] env H (seqQ (fun e H => J_spec_l1Rd_grow_1 D R (keepE e [2, 7, 0, 1]) H) (spec_l1Rd_grow_p R))
def J_spec_l1Rd_grow_3 (D : Den) (R : V → AH → Prop) (env : Env) (H : AH) : Prop := D (cAt [1, 1, 1, 1, 1] spec_l1Rd_grow_b) [] [] env H (spec_l1Rd_grow_p R)
def J_spec_l1Rd_grow_4 (D : Den) (R : V → AH → Prop) (env : Env) (H : AH) : Prop := D (cAt [1, 1, 1, 1, 0, 1, 0, 1, 1] spec_l1Rd_grow_b) [] [1, 7, 0, 2, 8] env H (seqQ (fun e H => J_spec_l1Rd_grow_3 D R (keepE e [1, 7, 0, 2, 8]) H) (spec_l1Rd_grow_p R))
def J_spec_l1Rd_grow_5 (D : Den) (R : V → AH → Prop) (env : Env) (H : AH) : Prop := D (cAt [1, 1, 1, 1, 0, 1, 0, 1, 1, 1] spec_l1Rd_grow_b) [] [1, 7, 0, 2, 8] env H (seqQ (fun e H => J_spec_l1Rd_grow_3 D R (keepE e [1, 7, 0, 2, 8]) H) (spec_l1Rd_grow_p R))
def J_spec_l1Rd_grow_6 (D : Den) (R : V → AH → Prop) (env : Env) (H : AH) : Prop := D (cAt [1, 1, 1, 1, 1, 1] spec_l1Rd_grow_b) [] [] env H (spec_l1Rd_grow_p R)
def L_spec_l1Rd_grow_7 (D : Den) (R : V → AH → Prop) (env : Env) (H : AH) (K1 : Env → AH → Prop) : Prop := D (cAt [1, 1, 1, 1, 1, 0, 1, 0, 0] spec_l1Rd_grow_b) [(0, [7, 0, 1, 8])] [1, 10, 7, 0, 2, 8] env H (seqQ (fun e H => K1 (keepE e [1, 10, 7, 0, 2, 8]) H) (blockQ 0 (seqQ (fun e H => J_spec_l1Rd_grow_6 D R (keepE e [7, 0, 1, 8]) H) (spec_l1Rd_grow_p R))))
def J_spec_l1Rd_grow_8 (D : Den) (R : V → AH → Prop) (K1 : Env → AH → Prop) (env : Env) (H : AH) : Prop := D (cAt [1, 1, 1, 1, 1, 0, 1, 0, 0, 1] spec_l1Rd_grow_b) [(0, [7, 0, 1, 8])] [1, 10, 7, 0, 2, 8] env H (seqQ (fun e H => K1 (keepE e [1, 10, 7, 0, 2, 8]) H) (blockQ 0 (seqQ (fun e H => J_spec_l1Rd_grow_6 D R (keepE e [7, 0, 1, 8]) H) (spec_l1Rd_grow_p R))))
def J_spec_l1Rd_grow_9 (D : Den) (R : V → AH → Prop) (K1 : Env → AH → Prop) (env : Env) (H : AH) : Prop := D (cAt [1, 1, 1, 1, 1, 0, 1, 0, 0, 1, 1] spec_l1Rd_grow_b) [(0, [7, 0, 1, 8])] [1, 10, 7, 0, 2, 8] env H (seqQ (fun e H => K1 (keepE e [1, 10, 7, 0, 2, 8]) H) (blockQ 0 (seqQ (fun e H => J_spec_l1Rd_grow_6 D R (keepE e [7, 0, 1, 8]) H) (spec_l1Rd_grow_p R))))
def J_spec_l1Rd_grow_10 (D : Den) (R : V → AH → Prop) (env : Env) (H : AH) : Prop := D (cAt [1, 1, 1, 1, 1, 1, 1] spec_l1Rd_grow_b) [] [] env H (spec_l1Rd_grow_p R)
def J_spec_l1Rd_grow_11 (D : Den) (R : V → AH → Prop) (env : Env) (H : AH) : Prop := D (cAt [1, 1, 1, 1, 1, 1, 0, 1, 0, 1, 1, 1] spec_l1Rd_grow_b) [] [1, 8] env H (seqQ (fun e H => J_spec_l1Rd_grow_10 D R (keepE e [1, 8]) H) (spec_l1Rd_grow_p R))
def J_spec_l1Rd_grow_12 (D : Den) (R : V → AH → Prop) (env : Env) (H : AH) : Prop := D (cAt [1, 1, 1, 1, 1, 1, 0, 1, 0, 1, 1, 0, 1] spec_l1Rd_grow_b) [] [0, 1, 8] env H (seqQ (fun e H => J_spec_l1Rd_grow_11 D R (keepE e [0, 1, 8]) H) (seqQ (fun e H => J_spec_l1Rd_grow_10 D R (keepE e [1, 8]) H) (spec_l1Rd_grow_p R)))
theorem spec_l1Rd_grow_in {args : List V} {H : AH} {R : V → AH → Prop} (h : ∀ D, IsD 96 [6] D → D spec_l1Rd_grow_b [] [] (argEnv 0 args) H (spec_l1Rd_grow_p R)) (hn : args.length ≤ 96 := by exact of_decide_eq_true rfl) : CallsA prog spec_l1Rd_grow args H R := callsD_of Go.Proofs.Tryd.func49 (by kernel_rfl) (by kernel_rfl) (by kernel_rfl) (enters_of Go.Proofs.Tryd.func49 (by kernel_rfl) rfl) hn h
theorem spec_l1Rd_grow_eq (hD : IsD 96 [6] D) {r_b0 r_i0 nodes_b0 nodes_i0 nodes_n0 : Nat} {nodes_c0 : Cap} {deep0 : Int} {H0 : AH} : D spec_l1Rd_grow_b [] [] (argEnv 0 [V.ptr r_b0 r_i0, V.sl nodes_b0 nodes_i0 nodes_n0 nodes_c0, V.int IntKind.i64 deep0]) H0 (spec_l1Rd_grow_p R) = (
  CallsA prog spec_l1Rd_near [V.ptr r_b0 r_i0, V.int IntKind.i64 3, V.int IntKind.i64 8] H0 fun v0 H1 =>
  asInt IntKind.i64 v0 fun n0 =>
    splitB (deep0 == 0)
      (J_spec_l1Rd_grow_2 D R [(18, V.bool true), (7, V.int IntKind.i64 n0), (2, V.int IntKind.i64 deep0), (0, V.ptr r_b0 r_i0), (1, V.sl nodes_b0 nodes_i0 nodes_n0 nodes_c0)] H1)
      (CallsA prog spec_l1Rd_once [V.ptr r_b0 r_i0, V.int IntKind.i64 3] H1 fun v1 H2 =>
        asBool v1 fun t0 =>
          J_spec_l1Rd_grow_2 D R [(18, V.bool t0), (7, V.int IntKind.i64 n0), (2, V.int IntKind.i64 deep0), (0, V.ptr r_b0 r_i0), (1, V.sl nodes_b0 nodes_i0 nodes_n0 nodes_c0)] H2)) := (hD _ _ _ _ _ _).trans (by kernel_rfl)
theorem J_spec_l1Rd_grow_2_eq (hD : IsD 96 [6] D) {x180 : Bool} {op0 deep0 : Int} {r_b0 r_i0 nodes_b0 nodes_i0 nodes_n0 : Nat} {nodes_c0 : Cap} {H0 : AH} : J_spec_l1Rd_grow_2 D R [(18, V.bool x180), (7, V.int IntKind.i64 op0), (2, V.int IntKind.i64 deep0), (0, V.ptr r_b0 r_i0), (1, V.sl nodes_b0 nodes_i0 nodes_n0 nodes_c0)] H0 = (
  splitB x180
  (CallsA prog spec_l1Rd_once [V.ptr r_b0 r_i0, V.int IntKind.i64 12] H0 fun v0 H1 =>
    asBool v0 fun t0 =>
      splitB t0 (J_spec_l1Rd_grow_1 D R [(2, V.int IntKind.i64 deep0), (7, V.int IntKind.i64 1), (0, V.ptr r_b0 r_i0), (1, V.sl nodes_b0 nodes_i0 nodes_n0 nodes_c0)] H1)
        (J_spec_l1Rd_grow_1 D R [(2, V.int IntKind.i64 deep0), (7, V.int IntKind.i64 2), (0, V.ptr r_b0 r_i0), (1, V.sl nodes_b0 nodes_i0 nodes_n0 nodes_c0)] H1))
  (J_spec_l1Rd_grow_1 D R [(2, V.int IntKind.i64 deep0), (7, V.int IntKind.i64 op0), (0, V.ptr r_b0 r_i0), (1, V.sl nodes_b0 nodes_i0 nodes_n0 nodes_c0)] H0)) := (hD _ _ _ _ _ _).trans (by kernel_rfl)
theorem J_spec_l1Rd_grow_1_eq (hD : IsD 96 [6] D) {deep0 op0 : Int} {r_b0 r_i0 nodes_b0 nodes_i0 nodes_n0 : Nat} {nodes_c0 : Cap} {H0 : AH} : J_spec_l1Rd_grow_1 D R [(2, V.int IntKind.i64 deep0), (7, V.int IntKind.i64 op0), (0, V.ptr r_b0 r_i0), (1, V.sl nodes_b0 nodes_i0 nodes_n0 nodes_c0)] H0 = (
  stK (H0 ++ [Blk.cells [V.int IntKind.i64 0, V.sl 0 0 0 Cap.nil, V.sl 0 0 0 Cap.nil, V.int IntKind.i64 0, V.int IntKind.i64 0] false]) (List.length H0) 0
  [V.int IntKind.i64 op0, V.sl 0 0 0 Cap.nil, V.sl 0 0 0 Cap.nil, V.int IntKind.i64 0, V.int IntKind.i64 0] fun H1 =>
  splitB (op0 == 2)
    (CallsA prog spec_l1Rd_below [V.ptr r_b0 r_i0, V.int IntKind.i64 9]
      (H1 ++ [Blk.cells [V.str [97], V.str [98], V.str [99], V.str [97, 98], V.str [97, 98, 99], V.str [120], V.str [10], V.str [45], V.str [122, 57]] false]) fun v0 H2 =>
      asInt IntKind.i64 v0 fun n0 =>
        inB n0 9 ∧
          ld H2 (List.length H1) (0 + n0.toNat * 1) fun v1 =>
            asStr v1 fun s0 =>
              CallsA prog spec_ClassOf [V.str s0] H2 fun v2 H3 =>
                asSl v2 fun b0 i0 n1 c0 =>
                  stK H3 (List.length H0) 1 [V.sl b0 i0 n1 c0] fun H4 =>
                    CallsA prog spec_l1Rd_once [V.ptr r_b0 r_i0, V.int IntKind.i64 5] H4 fun v3 H5 =>
                      asBool v3 fun t0 =>
                        splitB t0
                          (CallsA prog spec_l1Rd_class [V.ptr r_b0 r_i0] H5 fun v4 H6 =>
                            asSl v4 fun b1 i1 n2 c1 =>
                              splitB (decide ((↑n2 : Int) > 0))
                                (stK H6 (List.length H0) 1 [V.sl b1 i1 n2 c1] fun H7 =>
                                  J_spec_l1Rd_grow_4 D R [(0, V.ptr r_b0 r_i0), (1, V.sl nodes_b0 nodes_i0 nodes_n0 nodes_c0), (8, V.ptr (List.length H0) 0)] H7)
                                (J_spec_l1Rd_grow_4 D R [(0, V.ptr r_b0 r_i0), (1, V.sl nodes_b0 nodes_i0 nodes_n0 nodes_c0), (8, V.ptr (List.length H0) 0)] H6))
                          (J_spec_l1Rd_grow_4 D R [(0, V.ptr r_b0 r_i0), (1, V.sl nodes_b0 nodes_i0 nodes_n0 nodes_c0), (8, V.ptr (List.length H0) 0)] H5))
    (J_spec_l1Rd_grow_3 D R
      [(1, V.sl nodes_b0 nodes_i0 nodes_n0 nodes_c0), (7, V.int IntKind.i64 op0), (0, V.ptr r_b0 r_i0), (2, V.int IntKind.i64 deep0), (8, V.ptr (List.length H0) 0)] H1)) := (hD _ _ _ _ _ _).trans (by kernel_rfl)
theorem J_spec_l1Rd_grow_4_eq (hD : IsD 96 [6] D) {r_b0 r_i0 nodes_b0 nodes_i0 nodes_n0 : Nat} {nodes_c0 : Cap} {n_b0 n_i0 : Nat} {H0 : AH} : J_spec_l1Rd_grow_4 D R [(0, V.ptr r_b0 r_i0), (1, V.sl nodes_b0 nodes_i0 nodes_n0 nodes_c0), (8, V.ptr n_b0 n_i0)] H0 = (
  CallsA prog spec_l1Rd_once [V.ptr r_b0 r_i0, V.int IntKind.i64 16] H0 fun v0 H1 =>
  asBool v0 fun t0 =>
    splitB t0
      (ld H1 n_b0 (n_i0 + 1) fun v1 =>
        asSl v1 fun b0 i0 n0 c0 =>
          CallsA prog spec_Others [V.sl b0 i0 n0 c0] H1 fun v2 H2 =>
            asSl v2 fun b1 i1 n1 c1 =>
              stK H2 n_b0 (n_i0 + 1) [V.sl b1 i1 n1 c1] fun H3 => J_spec_l1Rd_grow_5 D R [(1, V.sl nodes_b0 nodes_i0 nodes_n0 nodes_c0), (8, V.ptr n_b0 n_i0)] H3)
      (J_spec_l1Rd_grow_5 D R [(1, V.sl nodes_b0 nodes_i0 nodes_n0 nodes_c0), (8, V.ptr n_b0 n_i0)] H1)) := (hD _ _ _ _ _ _).trans (by kernel_rfl)
theorem J_spec_l1Rd_grow_3_eq (hD : IsD 96 [6] D) {nodes_b0 nodes_i0 nodes_n0 : Nat} {nodes_c0 : Cap} {op0 : Int} {r_b0 r_i0 : Nat} {deep0 : Int} {n_b0 n_i0 : Nat} {H0 : AH} : J_spec_l1Rd_grow_3 D R [(1, V.sl nodes_b0 nodes_i0 nodes_n0 nodes_c0), (7, V.int IntKind.i64 op0), (0, V.ptr r_b0 r_i0), (2, V.int IntKind.i64 deep0), (8, V.ptr n_b0 n_i0)] H0 = (
  LoopI (L_spec_l1Rd_grow_7 D R)
  [(1, V.sl nodes_b0 nodes_i0 nodes_n0 nodes_c0), (10, V.int IntKind.i64 0), (7, V.int IntKind.i64 op0), (0, V.ptr r_b0 r_i0), (2, V.int IntKind.i64 deep0), (8, V.ptr n_b0 n_i0)] H0) := (hD _ _ _ _ _ _).trans (by kernel_rfl)
theorem J_spec_l1Rd_grow_5_eq (hD : IsD 96 [6] D) {nodes_b0 nodes_i0 nodes_n0 : Nat} {nodes_c0 : Cap} {n_b0 n_i0 : Nat} {H0 : AH} : J_spec_l1Rd_grow_5 D R [(1, V.sl nodes_b0 nodes_i0 nodes_n0 nodes_c0), (8, V.ptr n_b0 n_i0)] H0 = (
  ld H0 n_b0 (n_i0 + 0) fun v0 =>
  asInt IntKind.i64 v0 fun n0 =>
    ld H0 n_b0 (n_i0 + 1) fun v1 =>
      asSl v1 fun b0 i0 n1 c0 =>
        ld H0 n_b0 (n_i0 + 2) fun v2 =>
          asSl v2 fun b1 i1 n2 c1 =>
            ld H0 n_b0 (n_i0 + 3) fun v3 =>
              asInt IntKind.i64 v3 fun n3 =>
                ld H0 n_b0 (n_i0 + 4) fun v4 =>
                  asInt IntKind.i64 v4 fun n4 =>
                    cellsK (H0 ++ [Blk.cells [V.int IntKind.i64 n0, V.sl b0 i0 n1 c0, V.sl b1 i1 n2 c1, V.int IntKind.i64 n3, V.int IntKind.i64 n4] false]) (List.length H0) 0 5 fun l0 =>
                      app (H0 ++ [Blk.cells [V.int IntKind.i64 n0, V.sl b0 i0 n1 c0, V.sl b1 i1 n2 c1, V.int IntKind.i64 n3, V.int IntKind.i64 n4] false]) 5 72 nodes_b0 nodes_i0 nodes_n0 nodes_c0 1 l0
                        fun b2 i2 n5 c2 H1 => R (V.sl b2 i2 n5 c2) H1) := (hD _ _ _ _ _ _).trans (by kernel_rfl)
theorem L_spec_l1Rd_grow_7_eq (hD : IsD 96 [6] D) {nodes_b0 nodes_i0 nodes_n0 : Nat} {nodes_c0 : Cap} {k0 op0 : Int} {r_b0 r_i0 : Nat} {deep0 : Int} {n_b0 n_i0 : Nat} {H0 : AH} : L_spec_l1Rd_grow_7 D R [(1, V.sl nodes_b0 nodes_i0 nodes_n0 nodes_c0), (10, V.int IntKind.i64 k0), (7, V.int IntKind.i64 op0), (0, V.ptr r_b0 r_i0), (2, V.int IntKind.i64 deep0), (8, V.ptr n_b0 n_i0)] H0 K1 = (
  CallsA prog spec_l3Kids [V.int IntKind.i64 op0] H0 fun v0 H1 =>
  asInt IntKind.i64 v0 fun n0 =>
    splitB (decide (k0 < n0))
      (J_spec_l1Rd_grow_8 D R K1
        [(1, V.sl nodes_b0 nodes_i0 nodes_n0 nodes_c0), (10, V.int IntKind.i64 k0), (7, V.int IntKind.i64 op0), (0, V.ptr r_b0 r_i0), (2, V.int IntKind.i64 deep0), (8, V.ptr n_b0 n_i0)] H1)
      (J_spec_l1Rd_grow_6 D R [(7, V.int IntKind.i64 op0), (0, V.ptr r_b0 r_i0), (1, V.sl nodes_b0 nodes_i0 nodes_n0 nodes_c0), (8, V.ptr n_b0 n_i0)] H1)) := (hD _ _ _ _ _ _).trans (by kernel_rfl)
theorem J_spec_l1Rd_grow_8_eq (hD : IsD 96 [6] D) {nodes_b0 nodes_i0 nodes_n0 : Nat} {nodes_c0 : Cap} {k0 op0 : Int} {r_b0 r_i0 : Nat} {deep0 : Int} {n_b0 n_i0 : Nat} {H0 : AH} : J_spec_l1Rd_grow_8 D R K1 [(1, V.sl nodes_b0 nodes_i0 nodes_n0 nodes_c0), (10, V.int IntKind.i64 k0), (7, V.int IntKind.i64 op0), (0, V.ptr r_b0 r_i0), (2, V.int IntKind.i64 deep0), (8, V.ptr n_b0 n_i0)] H0 = (
  CallsA prog spec_l1Rd_grow [V.ptr r_b0 r_i0, V.sl nodes_b0 nodes_i0 nodes_n0 nodes_c0, V.int IntKind.i64 (IntKind.i64.wrap (deep0 - 1))] H0 fun v0 H1 =>
  asSl v0 fun b0 i0 n0 c0 =>
    ld H1 n_b0 (n_i0 + 2) fun v1 =>
      asSl v1 fun b1 i1 n1 c1 =>
        cellsK (H1 ++ [Blk.cells [V.int IntKind.i64 (IntKind.i64.wrap ((↑n0 : Int) - 1))] false]) (List.length H1) 0 1 fun l0 =>
          app (H1 ++ [Blk.cells [V.int IntKind.i64 (IntKind.i64.wrap ((↑n0 : Int) - 1))] false]) 1 8 b1 i1 n1 c1 1 l0 fun b2 i2 n2 c2 H2 =>
            stK H2 n_b0 (n_i0 + 2) [V.sl b2 i2 n2 c2] fun H3 =>
              J_spec_l1Rd_grow_9 D R K1
                [(10, V.int IntKind.i64 k0), (1, V.sl b0 i0 n0 c0), (7, V.int IntKind.i64 op0), (0, V.ptr r_b0 r_i0), (2, V.int IntKind.i64 deep0), (8, V.ptr n_b0 n_i0)] H3) := (hD _ _ _ _ _ _).trans (by kernel_rfl)
theorem J_spec_l1Rd_grow_6_eq (hD : IsD 96 [6] D) {op0 : Int} {r_b0 r_i0 nodes_b0 nodes_i0 nodes_n0 : Nat} {nodes_c0 : Cap} {n_b0 n_i0 : Nat} {H0 : AH} : J_spec_l1Rd_grow_6 D R [(7, V.int IntKind.i64 op0), (0, V.ptr r_b0 r_i0), (1, V.sl nodes_b0 nodes_i0 nodes_n0 nodes_c0), (8, V.ptr n_b0 n_i0)] H0 = (
  splitB (op0 == 8)
  (CallsA prog spec_l1Rd_below [V.ptr r_b0 r_i0, V.int IntKind.i64 3] H0 fun v0 H1 =>
    asInt IntKind.i64 v0 fun n0 =>
      stK H1 n_b0 (n_i0 + 3) [V.int IntKind.i64 n0] fun H2 =>
        ld H2 n_b0 (n_i0 + 3) fun v1 =>
          asInt IntKind.i64 v1 fun n1 =>
            CallsA prog spec_l1Rd_below [V.ptr r_b0 r_i0, V.int IntKind.i64 3] H2 fun v2 H3 =>
              asInt IntKind.i64 v2 fun n2 =>
                H3.cell n_b0 (n_i0 + 3) = some (V.int IntKind.i64 n1) ∧
                  stK H3 n_b0 (n_i0 + 4) [V.int IntKind.i64 (IntKind.i64.wrap (n1 + n2))] fun H4 =>
                    ld H4 n_b0 (n_i0 + 4) fun v3 =>
                      asInt IntKind.i64 v3 fun n3 =>
                        splitB (n3 == 0) (J_spec_l1Rd_grow_12 D R [(87, V.bool true), (0, V.ptr r_b0 r_i0), (1, V.sl nodes_b0 nodes_i0 nodes_n0 nodes_c0), (8, V.ptr n_b0 n_i0)] H4)
                          (CallsA prog spec_l1Rd_once [V.ptr r_b0 r_i0, V.int IntKind.i64 4] H4 fun v4 H5 =>
                            asBool v4 fun t0 => J_spec_l1Rd_grow_12 D R [(87, V.bool t0), (0, V.ptr r_b0 r_i0), (1, V.sl nodes_b0 nodes_i0 nodes_n0 nodes_c0), (8, V.ptr n_b0 n_i0)] H5))
  (J_spec_l1Rd_grow_10 D R [(1, V.sl nodes_b0 nodes_i0 nodes_n0 nodes_c0), (8, V.ptr n_b0 n_i0)] H0)) := (hD _ _ _ _ _ _).trans (by kernel_rfl)
theorem J_spec_l1Rd_grow_9_eq (hD : IsD 96 [6] D) {k0 : Int} {nodes_b0 nodes_i0 nodes_n0 : Nat} {nodes_c0 : Cap} {op0 : Int} {r_b0 r_i0 : Nat} {deep0 : Int} {n_b0 n_i0 : Nat} {H0 : AH} : J_spec_l1Rd_grow_9 D R K1 [(10, V.int IntKind.i64 k0), (1, V.sl nodes_b0 nodes_i0 nodes_n0 nodes_c0), (7, V.int IntKind.i64 op0), (0, V.ptr r_b0 r_i0), (2, V.int IntKind.i64 deep0), (8, V.ptr n_b0 n_i0)] H0 = (
  K1
  [(1, V.sl nodes_b0 nodes_i0 nodes_n0 nodes_c0), (10, V.int IntKind.i64 (IntKind.i64.wrap (k0 + 1))), (7, V.int IntKind.i64 op0), (0, V.ptr r_b0 r_i0), (2, V.int IntKind.i64 deep0),
    (8, V.ptr n_b0 n_i0)]
  H0) := (hD _ _ _ _ _ _).trans (by kernel_rfl)
theorem J_spec_l1Rd_grow_12_eq (hD : IsD 96 [6] D) {x870 : Bool} {r_b0 r_i0 nodes_b0 nodes_i0 nodes_n0 : Nat} {nodes_c0 : Cap} {n_b0 n_i0 : Nat} {H0 : AH} : J_spec_l1Rd_grow_12 D R [(87, V.bool x870), (0, V.ptr r_b0 r_i0), (1, V.sl nodes_b0 nodes_i0 nodes_n0 nodes_c0), (8, V.ptr n_b0 n_i0)] H0 = (
  splitB x870
  (stK H0 n_b0 (n_i0 + 4) [V.int IntKind.i64 (-1)] fun H1 => J_spec_l1Rd_grow_11 D R [(0, V.ptr r_b0 r_i0), (1, V.sl nodes_b0 nodes_i0 nodes_n0 nodes_c0), (8, V.ptr n_b0 n_i0)] H1)
  (J_spec_l1Rd_grow_11 D R [(0, V.ptr r_b0 r_i0), (1, V.sl nodes_b0 nodes_i0 nodes_n0 nodes_c0), (8, V.ptr n_b0 n_i0)] H0)) := (hD _ _ _ _ _ _).trans (by kernel_rfl)
theorem J_spec_l1Rd_grow_10_eq (hD : IsD 96 [6] D) {nodes_b0 nodes_i0 nodes_n0 : Nat} {nodes_c0 : Cap} {n_b0 n_i0 : Nat} {H0 : AH} : J_spec_l1Rd_grow_10 D R [(1, V.sl nodes_b0 nodes_i0 nodes_n0 nodes_c0), (8, V.ptr n_b0 n_i0)] H0 = (
  ld H0 n_b0 (n_i0 + 0) fun v0 =>
  asInt IntKind.i64 v0 fun n0 =>
    ld H0 n_b0 (n_i0 + 1) fun v1 =>
      asSl v1 fun b0 i0 n1 c0 =>
        ld H0 n_b0 (n_i0 + 2) fun v2 =>
          asSl v2 fun b1 i1 n2 c1 =>
            ld H0 n_b0 (n_i0 + 3) fun v3 =>
              asInt IntKind.i64 v3 fun n3 =>
                ld H0 n_b0 (n_i0 + 4) fun v4 =>
                  asInt IntKind.i64 v4 fun n4 =>
                    cellsK (H0 ++ [Blk.cells [V.int IntKind.i64 n0, V.sl b0 i0 n1 c0, V.sl b1 i1 n2 c1, V.int IntKind.i64 n3, V.int IntKind.i64 n4] false]) (List.length H0) 0 5 fun l0 =>
                      app (H0 ++ [Blk.cells [V.int IntKind.i64 n0, V.sl b0 i0 n1 c0, V.sl b1 i1 n2 c1, V.int IntKind.i64 n3, V.int IntKind.i64 n4] false]) 5 72 nodes_b0 nodes_i0 nodes_n0 nodes_c0 1 l0
                        fun b2 i2 n5 c2 H1 => R (V.sl b2 i2 n5 c2) H1) := (hD _ _ _ _ _ _).trans (by kernel_rfl)
theorem J_spec_l1Rd_grow_11_eq (hD : IsD 96 [6] D) {r_b0 r_i0 nodes_b0 nodes_i0 nodes_n0 : Nat} {nodes_c0 : Cap} {n_b0 n_i0 : Nat} {H0 : AH} : J_spec_l1Rd_grow_11 D R [(0, V.ptr r_b0 r_i0), (1, V.sl nodes_b0 nodes_i0 nodes_n0 nodes_c0), (8, V.ptr n_b0 n_i0)] H0 = (
  CallsA prog spec_l1Rd_once [V.ptr r_b0 r_i0, V.int IntKind.i64 16] H0 fun v0 H1 =>
  asBool v0 fun t0 =>
    splitB t0 (stK H1 n_b0 (n_i0 + 4) [V.int IntKind.i64 30] fun H2 => J_spec_l1Rd_grow_10 D R [(1, V.sl nodes_b0 nodes_i0 nodes_n0 nodes_c0), (8, V.ptr n_b0 n_i0)] H2)
      (J_spec_l1Rd_grow_10 D R [(1, V.sl nodes_b0 nodes_i0 nodes_n0 nodes_c0), (8, V.ptr n_b0 n_i0)] H1)) := (hD _ _ _ _ _ _).trans (by kernel_rfl)

/-! ### spec_l1Rd_class -/
noncomputable def spec_l1Rd_class_b : Code := (Go.Proofs.Tryd.f69.body).getD .skip
noncomputable abbrev spec_l1Rd_class_p (R : V → AH → Prop) : APost := postK prog (Go.Proofs.Tryd.f69.results.toList) R
def J_spec_l1Rd_class_1 (D : Den) (R : V → AH → Prop) (env : Env) (H : AH) : Prop := D (cAt [1, 1, 1] spec_l1Rd_class_b) [] [] env H (spec_l1Rd_class_p R)
def L_spec_l1Rd_class_2 (D : Den) (R : V → AH → Prop) (env : Env) (H : AH) (K1 : Env → AH → Prop) : Prop := D (cAt [1, 1, 0, 1, 0, 0] spec_l1Rd_class_b) [(0, [3])] [0, 4, 3] env H (seqQ (fun e H => K1 (keepE e [0, 4, 3]) H) (blockQ 0 (seqQ (fun e H => J_spec_l1Rd_class_1 D R (keepE e [3]) H) (spec_l1Rd_class_p R))))
def J_spec_l1Rd_class_3 (D : Den) (R : V → AH → Prop) (K1 : Env → AH → Prop) (env : Env) (H : AH) : Prop := D (cAt [1, 1, 0, 1, 0, 0, 1] spec_l1Rd_class_b) [(0, [3])] [0, 4, 3] env H (seqQ (fun e H => K1 (keepE e [0, 4, 3]) H) (blockQ 0 (seqQ (fun e H => J_spec_l1Rd_class_1 D R (keepE e [3]) H) (spec_l1Rd_class_p R))))
def J_spec_l1Rd_class_4 (D : Den) (R : V → AH → Prop) (K1 : Env → AH → Prop) (env : Env) (H : AH) : Prop := D (cAt [1, 1, 0, 1, 0, 0, 1, 1] spec_l1Rd_class_b) [(0, [3])] [0, 4, 3] env H (seqQ (fun e H => K1 (keepE e [0, 4, 3]) H) (blockQ 0 (seqQ (fun e H => J_spec_l1Rd_class_1 D R (keepE e [3]) H) (spec_l1Rd_class_p R))))
def J_spec_l1Rd_class_5 (D : Den) (R : V → AH → Prop) (K1 : Env → AH → Prop) (env : Env) (H : AH) : Prop := D (cAt [1, 1, 0, 1, 0, 0, 1, 0, 0, 1, 1] spec_l1Rd_class_b) [(1, [4, 0, 3]), (0, [3])] [4, 0, 3] env H (blockQ 1 (seqQ (fun e H => J_spec_l1Rd_class_4 D R K1 (keepE e [4, 0, 3]) H) (seqQ (fun e H => K1 (keepE e [0, 4, 3]) H) (blockQ 0 (seqQ (fun e H => J_spec_l1Rd_class_1 D R (keepE e [3]) H) (spec_l1Rd_class_p R))))))
def L_spec_l1Rd_class_6 (D : Den) (R : V → AH → Prop) (K1 : Env → AH → Prop) (env : Env) (H : AH) (K2 : Env → AH → Prop) : Prop := D (cAt [1, 1, 0, 1, 0, 0, 1, 0, 0, 1, 1, 1, 0, 0] spec_l1Rd_class_b) [(2, [4, 0, 3]), (1, [4, 0, 3]), (0, [3])] [6, 5, 0, 4, 3] env H (seqQ (fun e H => K2 (keepE e [6, 5, 0, 4, 3]) H) (blockQ 2 (blockQ 1 (seqQ (fun e H => J_spec_l1Rd_class_4 D R K1 (keepE e [4, 0, 3]) H) (seqQ (fun e H => K1 (keepE e [0, 4, 3]) H) (blockQ 0 (seqQ (fun e H => J_spec_l1Rd_class_1 D R (keepE e [3]) H) (spec_l1Rd_class_p R))))))))
def J_spec_l1Rd_class_7 (D : Den) (R : V → AH → Prop) (K1 : Env → AH → Prop) (K2 : Env → AH → Prop) (env : Env) (H : AH) : Prop := D (cAt [1, 1, 0, 1, 0, 0, 1, 0, 0, 1, 1, 1, 0, 0, 1] spec_l1Rd_class_b) [(2, [4, 0, 3]), (1, [4, 0, 3]), (0, [3])] [6, 5, 0, 4, 3] env H (seqQ (fun e H => K2 (keepE e [6, 5, 0, 4, 3]) H) (blockQ 2 (blockQ 1 (seqQ (fun e H => J_spec_l1Rd_class_4 D R K1 (keepE e [4, 0, 3]) H) (seqQ (fun e H => K1 (keepE e [0, 4, 3]) H) (blockQ 0 (seqQ (fun e H => J_spec_l1Rd_class_1 D R (keepE e [3]) H) (spec_l1Rd_class_p R))))))))
def J_spec_l1Rd_class_8 (D : Den) (R : V → AH → Prop) (K1 : Env → AH → Prop) (K2 : Env → AH → Prop) (env : Env) (H : AH) : Prop := D (cAt [1, 1, 0, 1, 0, 0, 1, 0, 0, 1, 1, 1, 0, 0, 0, 1] spec_l1Rd_class_b) [(2, [4, 0, 3]), (1, [4, 0, 3]), (0, [3])] [6, 5, 0, 4, 3] env H (seqQ (fun e H => J_spec_l1Rd_class_7 D R K1 K2 (keepE e [6, 5, 0, 4, 3]) H) (seqQ (fun e H => K2 (keepE e [6, 5, 0, 4, 3]) H) (blockQ 2 (blockQ 1 (seqQ (fun e H => J_spec_l1Rd_class_4 D R K1 (keepE e [4, 0, 3]) H) (seqQ (fun e H => K1 (keepE e [0, 4, 3]) H) (blockQ 0 (seqQ (fun e H => J_spec_l1Rd_class_1 D R (keepE e [3]) H) (spec_l1Rd_class_p R)))))))))
def J_spec_l1Rd_class_9 (D : Den) (R : V → AH → Prop) (K1 : Env → AH → Prop) (K2 : Env → AH → Prop) (env : Env) (H : AH) : Prop := D (cAt [1, 1, 0, 1, 0, 0, 1, 0, 0, 1, 1, 1, 0, 0, 1, 1] spec_l1Rd_class_b) [(2, [4, 0, 3]), (1, [4, 0, 3]), (0, [3])] [6, 5, 0, 4, 3] env H (seqQ (fun e H => K2 (keepE e [6, 5, 0, 4, 3]) H) (blockQ 2 (blockQ 1 (seqQ (fun e H => J_spec_l1Rd_class_4 D R K1 (keepE e [4, 0, 3]) H) (seqQ (fun e H => K1 (keepE e [0, 4, 3]) H) (blockQ 0 (seqQ (fun e H => J_spec_l1Rd_class_1 D R (keepE e [3]) H) (spec_l1Rd_class_p R))))))))
theorem spec_l1Rd_class_in {args : List V} {H : AH} {R : V → AH → Prop} (h : ∀ D, IsD 39 [2] D → D spec_l1Rd_class_b [] [] (argEnv 0 args) H (spec_l1Rd_class_p R)) (hn : args.length ≤ 39 := by exact of_decide_eq_true rfl) : CallsA prog spec_l1Rd_class args H R := callsD_of Go.Proofs.Tryd.func69 (by kernel_rfl) (by kernel_rfl) (by kernel_rfl) (enters_of Go.Proofs.Tryd.func69 (by kernel_rfl) rfl) hn h
theorem spec_l1Rd_class_eq (hD : IsD 39 [2] D) {r_b0 r_i0 : Nat} {H0 : AH} : D spec_l1Rd_class_b [] [] (argEnv 0 [V.ptr r_b0 r_i0]) H0 (spec_l1Rd_class_p R) = (
  mkOk 256 256 1 ∧
  CallsA prog spec_l1Rd_below [V.ptr r_b0 r_i0, V.int IntKind.i64 5] (H0 ++ [Blk.cells (List.replicate 256 (V.bool false)) false]) fun v0 H1 =>
    asInt IntKind.i64 v0 fun n0 => LoopI (L_spec_l1Rd_class_2 D R) [(0, V.ptr r_b0 r_i0), (4, V.int IntKind.i64 n0), (3, V.sl (List.length H0) 0 256 (Cap.ex 256))] H1) := (hD _ _ _ _ _ _).trans (by kernel_rfl)
theorem L_spec_l1Rd_class_2_eq (hD : IsD 39 [2] D) {r_b0 r_i0 : Nat} {n0 : Int} {marks_b0 marks_i0 marks_n0 : Nat} {marks_c0 : Cap} {H0 : AH} : L_spec_l1Rd_class_2 D R [(0, V.ptr r_b0 r_i0), (4, V.int IntKind.i64 n0), (3, V.sl marks_b0 marks_i0 marks_n0 marks_c0)] H0 K1 = (
  splitB (decide (n0 > 0)) (J_spec_l1Rd_class_3 D R K1 [(0, V.ptr r_b0 r_i0), (4, V.int IntKind.i64 n0), (3, V.sl marks_b0 marks_i0 marks_n0 marks_c0)] H0)
  (J_spec_l1Rd_class_1 D R [(3, V.sl marks_b0 marks_i0 marks_n0 marks_c0)] H0)) := (hD _ _ _ _ _ _).trans (by kernel_rfl)
theorem J_spec_l1Rd_class_3_eq (hD : IsD 39 [2] D) {r_b0 r_i0 : Nat} {n0 : Int} {marks_b0 marks_i0 marks_n0 : Nat} {marks_c0 : Cap} {H0 : AH} : J_spec_l1Rd_class_3 D R K1 [(0, V.ptr r_b0 r_i0), (4, V.int IntKind.i64 n0), (3, V.sl marks_b0 marks_i0 marks_n0 marks_c0)] H0 = (
  CallsA prog spec_l1Rd_below [V.ptr r_b0 r_i0, V.int IntKind.i64 256] H0 fun v0 H1 =>
  asInt IntKind.i64 v0 fun n1 =>
    CallsA prog spec_l1Rd_once [V.ptr r_b0 r_i0, V.int IntKind.i64 2] H1 fun v1 H2 =>
      asBool v1 fun t0 =>
        splitB t0
          (CallsA prog spec_l1Rd_below [V.ptr r_b0 r_i0, V.int IntKind.i64 8] H2 fun v2 H3 =>
            asInt IntKind.i64 v2 fun n2 =>
              J_spec_l1Rd_class_5 D R K1
                [(5, V.int IntKind.i64 (IntKind.i64.wrap (97 + n2))), (0, V.ptr r_b0 r_i0), (4, V.int IntKind.i64 n0), (3, V.sl marks_b0 marks_i0 marks_n0 marks_c0)] H3)
          (J_spec_l1Rd_class_5 D R K1 [(5, V.int IntKind.i64 n1), (0, V.ptr r_b0 r_i0), (4, V.int IntKind.i64 n0), (3, V.sl marks_b0 marks_i0 marks_n0 marks_c0)] H2)) := (hD _ _ _ _ _ _).trans (by kernel_rfl)
theorem J_spec_l1Rd_class_1_eq (hD : IsD 39 [2] D) {marks_b0 marks_i0 marks_n0 : Nat} {marks_c0 : Cap} {H0 : AH} : J_spec_l1Rd_class_1 D R [(3, V.sl marks_b0 marks_i0 marks_n0 marks_c0)] H0 = (
  CallsA prog spec_l1Class [V.sl marks_b0 marks_i0 marks_n0 marks_c0] H0 fun v0 H1 => asSl v0 fun b0 i0 n0 c0 => R (V.sl b0 i0 n0 c0) H1) := (hD _ _ _ _ _ _).trans (by kernel_rfl)
theorem J_spec_l1Rd_class_5_eq (hD : IsD 39 [2] D) {low0 : Int} {r_b0 r_i0 : Nat} {n0 : Int} {marks_b0 marks_i0 marks_n0 : Nat} {marks_c0 : Cap} {H0 : AH} : J_spec_l1Rd_class_5 D R K1 [(5, V.int IntKind.i64 low0), (0, V.ptr r_b0 r_i0), (4, V.int IntKind.i64 n0), (3, V.sl marks_b0 marks_i0 marks_n0 marks_c0)] H0 = (
  LoopI (L_spec_l1Rd_class_6 D R K1)
  [(6, V.int IntKind.i64 low0), (5, V.int IntKind.i64 low0), (0, V.ptr r_b0 r_i0), (4, V.int IntKind.i64 n0), (3, V.sl marks_b0 marks_i0 marks_n0 marks_c0)] H0) := (hD _ _ _ _ _ _).trans (by kernel_rfl)
theorem L_spec_l1Rd_class_6_eq (hD : IsD 39 [2] D) {b0 low0 : Int} {r_b0 r_i0 : Nat} {n0 : Int} {marks_b0 marks_i0 marks_n0 : Nat} {marks_c0 : Cap} {H0 : AH} : L_spec_l1Rd_class_6 D R K1 [(6, V.int IntKind.i64 b0), (5, V.int IntKind.i64 low0), (0, V.ptr r_b0 r_i0), (4, V.int IntKind.i64 n0), (3, V.sl marks_b0 marks_i0 marks_n0 marks_c0)] H0 K2 = (
  splitB (decide (b0 < 256))
  (CallsA prog spec_l1Rd_below [V.ptr r_b0 r_i0, V.int IntKind.i64 6] H0 fun v0 H1 =>
    asInt IntKind.i64 v0 fun n1 =>
      J_spec_l1Rd_class_8 D R K1 K2
        [(31, V.bool (decide (b0 ≤ IntKind.i64.wrap (low0 + n1)))), (6, V.int IntKind.i64 b0), (5, V.int IntKind.i64 low0), (0, V.ptr r_b0 r_i0), (4, V.int IntKind.i64 n0),
          (3, V.sl marks_b0 marks_i0 marks_n0 marks_c0)]
        H1)
  (J_spec_l1Rd_class_8 D R K1 K2
    [(31, V.bool false), (6, V.int IntKind.i64 b0), (5, V.int IntKind.i64 low0), (0, V.ptr r_b0 r_i0), (4, V.int IntKind.i64 n0), (3, V.sl marks_b0 marks_i0 marks_n0 marks_c0)] H0)) := (hD _ _ _ _ _ _).trans (by kernel_rfl)
theorem J_spec_l1Rd_class_8_eq (hD : IsD 39 [2] D) {x310 : Bool} {b0 low0 : Int} {r_b0 r_i0 : Nat} {n0 : Int} {marks_b0 marks_i0 marks_n0 : Nat} {marks_c0 : Cap} {H0 : AH} : J_spec_l1Rd_class_8 D R K1 K2 [(31, V.bool x310), (6, V.int IntKind.i64 b0), (5, V.int IntKind.i64 low0), (0, V.ptr r_b0 r_i0), (4, V.int IntKind.i64 n0), (3, V.sl marks_b0 marks_i0 marks_n0 marks_c0)] H0 = (
  splitB x310
  (J_spec_l1Rd_class_7 D R K1 K2
    [(6, V.int IntKind.i64 b0), (5, V.int IntKind.i64 low0), (0, V.ptr r_b0 r_i0), (4, V.int IntKind.i64 n0), (3, V.sl marks_b0 marks_i0 marks_n0 marks_c0)] H0)
  (J_spec_l1Rd_class_4 D R K1 [(4, V.int IntKind.i64 n0), (0, V.ptr r_b0 r_i0), (3, V.sl marks_b0 marks_i0 marks_n0 marks_c0)] H0)) := (hD _ _ _ _ _ _).trans (by kernel_rfl)
theorem J_spec_l1Rd_class_7_eq (hD : IsD 39 [2] D) {b0 low0 : Int} {r_b0 r_i0 : Nat} {n0 : Int} {marks_b0 marks_i0 marks_n0 : Nat} {marks_c0 : Cap} {H0 : AH} : J_spec_l1Rd_class_7 D R K1 K2 [(6, V.int IntKind.i64 b0), (5, V.int IntKind.i64 low0), (0, V.ptr r_b0 r_i0), (4, V.int IntKind.i64 n0), (3, V.sl marks_b0 marks_i0 marks_n0 marks_c0)] H0 = (
  inB b0 marks_n0 ∧
  stK H0 marks_b0 (marks_i0 + b0.toNat * 1) [V.bool true] fun H1 =>
    J_spec_l1Rd_class_9 D R K1 K2
      [(6, V.int IntKind.i64 b0), (5, V.int IntKind.i64 low0), (0, V.ptr r_b0 r_i0), (4, V.int IntKind.i64 n0), (3, V.sl marks_b0 marks_i0 marks_n0 marks_c0)] H1) := (hD _ _ _ _ _ _).trans (by kernel_rfl)
theorem J_spec_l1Rd_class_4_eq (hD : IsD 39 [2] D) {n0 : Int} {r_b0 r_i0 marks_b0 marks_i0 marks_n0 : Nat} {marks_c0 : Cap} {H0 : AH} : J_spec_l1Rd_class_4 D R K1 [(4, V.int IntKind.i64 n0), (0, V.ptr r_b0 r_i0), (3, V.sl marks_b0 marks_i0 marks_n0 marks_c0)] H0 = (
  K1 [(0, V.ptr r_b0 r_i0), (4, V.int IntKind.i64 (IntKind.i64.wrap (n0 - 1))), (3, V.sl marks_b0 marks_i0 marks_n0 marks_c0)] H0) := (hD _ _ _ _ _ _).trans (by kernel_rfl)
theorem J_spec_l1Rd_class_9_eq (hD : IsD 39 [2] D) {b0 low0 : Int} {r_b0 r_i0 : Nat} {n0 : Int} {marks_b0 marks_i0 marks_n0 : Nat} {marks_c0 : Cap} {H0 : AH} : J_spec_l1Rd_class_9 D R K1 K2 [(6, V.int IntKind.i64 b0), (5, V.int IntKind.i64 low0), (0, V.ptr r_b0 r_i0), (4, V.int IntKind.i64 n0), (3, V.sl marks_b0 marks_i0 marks_n0 marks_c0)] H0 = (
  K2 [(6, V.int IntKind.i64 (IntKind.i64.wrap (b0 + 1))), (5, V.int IntKind.i64 low0), (0, V.ptr r_b0 r_i0), (4, V.int IntKind.i64 n0), (3, V.sl marks_b0 marks_i0 marks_n0 marks_c0)] H0) := (hD _ _ _ _ _ _).trans (by kernel_rfl)

/-! ### impl_Rx_shortest -/
noncomputable def impl_Rx_shortest_b : Code := (Go.Proofs.Tryd.f29.body).getD .skip
noncomputable abbrev impl_Rx_shortest_p (R : V → AH → Prop) : APost := postK prog (Go.Proofs.Tryd.f29.results.toList) R
def J_impl_Rx_shortest_1 (D : Den) (R : V → AH → Prop) (env : Env) (H : AH) : Prop := D (cAt [1, 1, 1] impl_Rx_shortest_b) [] [] env H (impl_Rx_shortest_p R)
theorem impl_Rx_shortest_in {args : List V} {H : AH} {R : V → AH → Prop} (h : ∀ D, IsD 66 [4] D → D impl_Rx_shortest_b [] [] (argEnv 0 args) H (impl_Rx_shortest_p R)) (hn : args.length ≤ 66 := by exact of_decide_eq_true rfl) : CallsA prog impl_Rx_shortest args H R := callsD_of Go.Proofs.Tryd.func29 (by kernel_rfl) (by kernel_rfl) (by kernel_rfl) (enters_of Go.Proofs.Tryd.func29 (by kernel_rfl) rfl) hn h
theorem impl_Rx_shortest_eq (hD : IsD 66 [4] D) {x_b0 x_i0 x_n0 : Nat} {x_c0 : Cap} {place0 : Int} {H0 : AH} : D impl_Rx_shortest_b [] [] (argEnv 0 [V.agg [V.sl x_b0 x_i0 x_n0 x_c0], V.int IntKind.i64 place0]) H0 (impl_Rx_shortest_p R) = (
  ld (H0 ++ [Blk.cells [V.sl x_b0 x_i0 x_n0 x_c0] false]) (List.length H0) 0 fun v0 =>
  asSl v0 fun b0 i0 n0 c0 =>
    inB place0 n0 ∧
      ld (H0 ++ [Blk.cells [V.sl x_b0 x_i0 x_n0 x_c0] false]) b0 (i0 + place0.toNat * 5 + 0) fun v1 =>
        asInt IntKind.i64 v1 fun n1 =>
          ld (H0 ++ [Blk.cells [V.sl x_b0 x_i0 x_n0 x_c0] false]) b0 (i0 + place0.toNat * 5 + 1) fun v2 =>
            asSl v2 fun b1 i1 n2 c1 =>
              ld (H0 ++ [Blk.cells [V.sl x_b0 x_i0 x_n0 x_c0] false]) b0 (i0 + place0.toNat * 5 + 2) fun v3 =>
                asSl v3 fun b2 i2 n3 c2 =>
                  ld (H0 ++ [Blk.cells [V.sl x_b0 x_i0 x_n0 x_c0] false]) b0 (i0 + place0.toNat * 5 + 3) fun v4 =>
                    asInt IntKind.i64 v4 fun n4 =>
                      ld (H0 ++ [Blk.cells [V.sl x_b0 x_i0 x_n0 x_c0] false]) b0 (i0 + place0.toNat * 5 + 4) fun v5 =>
                        asInt IntKind.i64 v5 fun n5 =>
                          stK
                            (H0 ++ [Blk.cells [V.sl x_b0 x_i0 x_n0 x_c0] false] ++
                              [Blk.cells [V.int IntKind.i64 0, V.sl 0 0 0 Cap.nil, V.sl 0 0 0 Cap.nil, V.int IntKind.i64 0, V.int IntKind.i64 0] false])
                            (List.length (H0 ++ [Blk.cells [V.sl x_b0 x_i0 x_n0 x_c0] false])) 0 [V.int IntKind.i64 n1, V.sl b1 i1 n2 c1, V.sl b2 i2 n3 c2, V.int IntKind.i64 n4, V.int IntKind.i64 n5]
                            fun H1 =>
                            ld H1 (List.length (H0 ++ [Blk.cells [V.sl x_b0 x_i0 x_n0 x_c0] false])) 0 fun v6 =>
                              asInt IntKind.i64 v6 fun n6 =>
                                splitB (n6 == 2) (R (V.int IntKind.i64 1) H1)
                                  (splitB (n6 == 3)
                                    (ld H1 (List.length H0) 0 fun v7 =>
                                      asSl v7 fun b3 i3 n7 c3 =>
                                        ld H1 (List.length (H0 ++ [Blk.cells [V.sl x_b0 x_i0 x_n0 x_c0] false])) 2 fun v8 =>
                                          asSl v8 fun b4 i4 n8 c4 =>
                                            inB 0 n8 ∧
                                              ld H1 b4 i4 fun v9 =>
                                                asInt IntKind.i64 v9 fun n9 =>
                                                  ld H1 (List.length H0) 0 fun v10 =>
                                                    asSl v10 fun b5 i5 n10 c5 =>
                                                      ld H1 (List.length (H0 ++ [Blk.cells [V.sl x_b0 x_i0 x_n0 x_c0] false])) 2 fun v11 =>
                                                        asSl v11 fun b6 i6 n11 c6 =>
                                                          inB 1 n11 ∧
                                                            ld H1 b6 (i6 + 1) fun v12 =>
                                                              asInt IntKind.i64 v12 fun n12 =>
                                                                CallsA prog impl_Rx_shortest [V.agg [V.sl b3 i3 n7 c3], V.int IntKind.i64 n9] H1 fun v13 H2 =>
                                                                  asInt IntKind.i64 v13 fun n13 =>
                                                                    H2.cell b6 (i6 + 1) = some (V.int IntKind.i64 n12) ∧
                                                                      H2.cell (List.length (H0 ++ [Blk.cells [V.sl x_b0 x_i0 x_n0 x_c0] false])) 2 = some (V.sl b6 i6 n11 c6) ∧
                                                                        (H2.cell (List.length H0) 0 = some (V.sl b5 i5 n10 c5) ∧ True) ∧
                                                                          CallsA prog impl_Rx_shortest [V.agg [V.sl b5 i5 n10 c5], V.int IntKind.i64 n12] H2 fun v14 H3 =>
                                                                            asInt IntKind.i64 v14 fun n14 =>
                                                                              R (V.int IntKind.i64 (if IntKind.i64.wrap (n13 + n14) < 1000000000 then IntKind.i64.wrap (n13 + n14) else 1000000000)) H3)
                                    (splitB (n6 == 4)
                                      (ld H1 (List.length H0) 0 fun v15 =>
                                        asSl v15 fun b7 i7 n15 c7 =>
                                          ld H1 (List.length (H0 ++ [Blk.cells [V.sl x_b0 x_i0 x_n0 x_c0] false])) 2 fun v16 =>
                                            asSl v16 fun b8 i8 n16 c8 =>
                                              inB 0 n16 ∧
                                                ld H1 b8 i8 fun v17 =>
                                                  asInt IntKind.i64 v17 fun n17 =>
                                                    ld H1 (List.length H0) 0 fun v18 =>
                                                      asSl v18 fun b9 i9 n18 c9 =>
                                                        ld H1 (List.length (H0 ++ [Blk.cells [V.sl x_b0 x_i0 x_n0 x_c0] false])) 2 fun v19 =>
                                                          asSl v19 fun b10 i10 n19 c10 =>
                                                            inB 1 n19 ∧
                                                              ld H1 b10 (i10 + 1) fun v20 =>
                                                                asInt IntKind.i64 v20 fun n20 =>
                                                                  CallsA prog impl_Rx_shortest [V.agg [V.sl b7 i7 n15 c7], V.int IntKind.i64 n17] H1 fun v21 H4 =>
                                                                    asInt IntKind.i64 v21 fun n21 =>
                                                                      H4.cell b10 (i10 + 1) = some (V.int IntKind.i64 n20) ∧
                                                                        H4.cell (List.length (H0 ++ [Blk.cells [V.sl x_b0 x_i0 x_n0 x_c0] false])) 2 = some (V.sl b10 i10 n19 c10) ∧
                                                                          (H4.cell (List.length H0) 0 = some (V.sl b9 i9 n18 c9) ∧ True) ∧
                                                                            CallsA prog impl_Rx_shortest [V.agg [V.sl b9 i9 n18 c9], V.int IntKind.i64 n20] H4 fun v22 H5 =>
                                                                              asInt IntKind.i64 v22 fun n22 => R (V.int IntKind.i64 (if n22 < n21 then n22 else n21)) H5)
                                      (splitB (n6 == 6)
                                        (ld H1 (List.length H0) 0 fun v23 =>
                                          asSl v23 fun b11 i11 n23 c11 =>
                                            ld H1 (List.length (H0 ++ [Blk.cells [V.sl x_b0 x_i0 x_n0 x_c0] false])) 2 fun v24 =>
                                              asSl v24 fun b12 i12 n24 c12 =>
                                                inB 0 n24 ∧
                                                  ld H1 b12 i12 fun v25 =>
                                                    asInt IntKind.i64 v25 fun n25 =>
                                                      CallsA prog impl_Rx_shortest [V.agg [V.sl b11 i11 n23 c11], V.int IntKind.i64 n25] H1 fun v26 H6 =>
                                                        asInt IntKind.i64 v26 fun n26 => R (V.int IntKind.i64 n26) H6)
                                        (splitB (n6 == 8)
                                          (ld H1 (List.length (H0 ++ [Blk.cells [V.sl x_b0 x_i0 x_n0 x_c0] false])) 3 fun v27 =>
                                            asInt IntKind.i64 v27 fun n27 =>
                                              ld H1 (List.length H0) 0 fun v28 =>
                                                asSl v28 fun b13 i13 n28 c13 =>
                                                  ld H1 (List.length (H0 ++ [Blk.cells [V.sl x_b0 x_i0 x_n0 x_c0] false])) 2 fun v29 =>
                                                    asSl v29 fun b14 i14 n29 c14 =>
                                                      inB 0 n29 ∧
                                                        ld H1 b14 i14 fun v30 =>
                                                          asInt IntKind.i64 v30 fun n30 =>
                                                            CallsA prog impl_Rx_shortest [V.agg [V.sl b13 i13 n28 c13], V.int IntKind.i64 n30] H1 fun v31 H7 =>
                                                              asInt IntKind.i64 v31 fun n31 =>
                                                                H7.cell (List.length (H0 ++ [Blk.cells [V.sl x_b0 x_i0 x_n0 x_c0] false])) 3 = some (V.int IntKind.i64 n27) ∧
                                                                  R (V.int IntKind.i64 (if IntKind.i64.wrap (n27 * n31) < 1000000000 then IntKind.i64.wrap (n27 * n31) else 1000000000)) H7)
                                          (J_impl_Rx_shortest_1 D R [] H1)))))) := (hD _ _ _ _ _ _).trans (by kernel_rfl)
theorem J_impl_Rx_shortest_1_eq (hD : IsD 66 [4] D) {H0 : AH} : J_impl_Rx_shortest_1 D R [] H0 = (
  R (V.int IntKind.i64 0) H0) := (hD _ _ _ _ _ _).trans (by kernel_rfl)

/-! ### spec_EndsAt -/
noncomputable def spec_EndsAt_b : Code := (Go.Proofs.Tryd.f6.body).getD .skip
noncomputable abbrev spec_EndsAt_p (R : V → AH → Prop) : APost := postK prog (Go.Proofs.Tryd.f6.results.toList) R
def J_spec_EndsAt_1 (D : Den) (R : V → AH → Prop) (env : Env) (H : AH) : Prop := D (cAt [1, 1, 1] spec_EndsAt_b) [] [] env H (spec_EndsAt_p R)
def J_spec_EndsAt_2 (D : Den) (R : V → AH → Prop) (env : Env) (H : AH) : Prop := D (cAt [1, 1, 0, 1] spec_EndsAt_b) [] [1, 3, 2, 7] env H (seqQ (fun e H => J_spec_EndsAt_1 D R (keepE e [1, 3, 2, 7]) H) (spec_EndsAt_p R))
def J_spec_EndsAt_3 (D : Den) (R : V → AH → Prop) (env : Env) (H : AH) : Prop := D (cAt [1, 1, 1, 1, 1, 1] spec_EndsAt_b) [] [] env H (spec_EndsAt_p R)
def L_spec_EndsAt_4 (D : Den) (R : V → AH → Prop) (env : Env) (H : AH) (K1 : Env → AH → Prop) : Prop := D (cAt [1, 1, 1, 1, 1, 0, 1, 0, 0] spec_EndsAt_b) [(0, [7])] [7, 10, 9] env H (seqQ (fun e H => K1 (keepE e [7, 10, 9]) H) (blockQ 0 (seqQ (fun e H => J_spec_EndsAt_3 D R (keepE e [7]) H) (spec_EndsAt_p R))))
def J_spec_EndsAt_5 (D : Den) (R : V → AH → Prop) (K1 : Env → AH → Prop) (env : Env) (H : AH) : Prop := D (cAt [1, 1, 1, 1, 1, 0, 1, 0, 0, 1] spec_EndsAt_b) [(0, [7])] [7, 10, 9] env H (seqQ (fun e H => K1 (keepE e [7, 10, 9]) H) (blockQ 0 (seqQ (fun e H => J_spec_EndsAt_3 D R (keepE e [7]) H) (spec_EndsAt_p R))))
def J_spec_EndsAt_6 (D : Den) (R : V → AH → Prop) (K1 : Env → AH → Prop) (env : Env) (H : AH) : Prop := D (cAt [1, 1, 1, 1, 1, 0, 1, 0, 0, 1, 1] spec_EndsAt_b) [(0, [7])] [7, 10, 9] env H (seqQ (fun e H => K1 (keepE e [7, 10, 9]) H) (blockQ 0 (seqQ (fun e H => J_spec_EndsAt_3 D R (keepE e [7]) H) (spec_EndsAt_p R))))
theorem spec_EndsAt_in {args : List V} {H : AH} {R : V → AH → Prop} (h : ∀ D, IsD 62 [6] D → D spec_EndsAt_b [] [] (argEnv 0 args) H (spec_EndsAt_p R)) (hn : args.length ≤ 62 := by exact of_decide_eq_true rfl) : CallsA prog spec_EndsAt args H R := callsD_of Go.Proofs.Tryd.func6 (by kernel_rfl) (by kernel_rfl) (by kernel_rfl) (enters_of Go.Proofs.Tryd.func6 (by kernel_rfl) rfl) hn h
theorem spec_EndsAt_eq (hD : IsD 62 [6] D) {x_b0 x_i0 x_n0 : Nat} {x_c0 : Cap} {text0 : List UInt8} {at0 : Int} {H0 : AH} : D spec_EndsAt_b [] [] (argEnv 0 [V.agg [V.sl x_b0 x_i0 x_n0 x_c0], V.str text0, V.int IntKind.i64 at0]) H0 (spec_EndsAt_p R) = (
  ld (H0 ++ [Blk.cells [V.sl x_b0 x_i0 x_n0 x_c0] false] ++ [Blk.cells [] false]) (List.length H0) 0 fun v0 =>
  asSl v0 fun b0 i0 n0 c0 =>
    CallsA prog spec_RxOk [V.agg [V.sl b0 i0 n0 c0]] (H0 ++ [Blk.cells [V.sl x_b0 x_i0 x_n0 x_c0] false] ++ [Blk.cells [] false]) fun v1 H1 =>
      asBool v1 fun t0 =>
        splitB (!t0)
          (J_spec_EndsAt_2 D R
            [(26, V.bool true), (2, V.int IntKind.i64 at0), (3, V.ptr (List.length H0) 0), (1, V.str text0),
              (7, V.sl (List.length (H0 ++ [Blk.cells [V.sl x_b0 x_i0 x_n0 x_c0] false])) 0 0 (Cap.ex 0))]
            H1)
          (splitB (decide ((↑text0.length : Int) > 300))
            (J_spec_EndsAt_2 D R
              [(26, V.bool true), (2, V.int IntKind.i64 at0), (3, V.ptr (List.length H0) 0), (1, V.str text0),
                (7, V.sl (List.length (H0 ++ [Blk.cells [V.sl x_b0 x_i0 x_n0 x_c0] false])) 0 0 (Cap.ex 0))]
              H1)
            (CallsA prog spec_l1In [V.int IntKind.i64 at0, V.int IntKind.i64 0, V.int IntKind.i64 (↑text0.length : Int)] H1 fun v2 H2 =>
              asBool v2 fun t1 =>
                J_spec_EndsAt_2 D R
                  [(26, V.bool !t1), (2, V.int IntKind.i64 at0), (3, V.ptr (List.length H0) 0), (1, V.str text0),
                    (7, V.sl (List.length (H0 ++ [Blk.cells [V.sl x_b0 x_i0 x_n0 x_c0] false])) 0 0 (Cap.ex 0))]
                  H2))) := (hD _ _ _ _ _ _).trans (by kernel_rfl)
theorem J_spec_EndsAt_2_eq (hD : IsD 62 [6] D) {x260 : Bool} {at0 : Int} {x_b0 x_i0 : Nat} {text0 : List UInt8} {out_b0 out_i0 out_n0 : Nat} {out_c0 : Cap} {H0 : AH} : J_spec_EndsAt_2 D R [(26, V.bool x260), (2, V.int IntKind.i64 at0), (3, V.ptr x_b0 x_i0), (1, V.str text0), (7, V.sl out_b0 out_i0 out_n0 out_c0)] H0 = (
  splitB x260 (R (V.sl out_b0 out_i0 out_n0 out_c0) H0) (J_spec_EndsAt_1 D R [(1, V.str text0), (3, V.ptr x_b0 x_i0), (2, V.int IntKind.i64 at0), (7, V.sl out_b0 out_i0 out_n0 out_c0)] H0)) := (hD _ _ _ _ _ _).trans (by kernel_rfl)
theorem J_spec_EndsAt_1_eq (hD : IsD 62 [6] D) {text0 : List UInt8} {x_b0 x_i0 : Nat} {at0 : Int} {out_b0 out_i0 out_n0 : Nat} {out_c0 : Cap} {H0 : AH} : J_spec_EndsAt_1 D R [(1, V.str text0), (3, V.ptr x_b0 x_i0), (2, V.int IntKind.i64 at0), (7, V.sl out_b0 out_i0 out_n0 out_c0)] H0 = (
  ld H0 x_b0 (x_i0 + 0) fun v0 =>
  asSl v0 fun b0 i0 n0 c0 =>
    ld H0 x_b0 x_i0 fun v1 =>
      asSl v1 fun b1 i1 n1 c1 =>
        mkOk (IntKind.i64.wrap ((↑n1 : Int) * IntKind.i64.wrap ((↑text0.length : Int) + 1))) (IntKind.i64.wrap ((↑n1 : Int) * IntKind.i64.wrap ((↑text0.length : Int) + 1))) 24 ∧
          ld
            (H0 ++ [Blk.cells (rep (IntKind.i64.wrap ((↑n1 : Int) * IntKind.i64.wrap ((↑text0.length : Int) + 1))).toNat [V.sl 0 0 0 Cap.nil]) false] ++
              [Blk.cells
                  [V.sl b0 i0 n0 c0, V.str text0,
                    V.sl (List.length H0) 0 (IntKind.i64.wrap ((↑n1 : Int) * IntKind.i64.wrap ((↑text0.length : Int) + 1))).toNat
                      (Cap.ex (IntKind.i64.wrap ((↑n1 : Int) * IntKind.i64.wrap ((↑text0.length : Int) + 1))).toNat)]
                  false])
            x_b0 x_i0 fun v2 =>
            asSl v2 fun b2 i2 n2 c2 =>
              CallsA prog 21
                [V.ptr (List.length (H0 ++ [Blk.cells (rep (IntKind.i64.wrap ((↑n1 : Int) * IntKind.i64.wrap ((↑text0.length : Int) + 1))).toNat [V.sl 0 0 0 Cap.nil]) false])) 0,
                  V.int IntKind.i64 (IntKind.i64.wrap ((↑n2 : Int) - 1)), V.int IntKind.i64 at0]
                (H0 ++ [Blk.cells (rep (IntKind.i64.wrap ((↑n1 : Int) * IntKind.i64.wrap ((↑text0.length : Int) + 1))).toNat [V.sl 0 0 0 Cap.nil]) false] ++
                  [Blk.cells
                      [V.sl b0 i0 n0 c0, V.str text0,
                        V.sl (List.length H0) 0 (IntKind.i64.wrap ((↑n1 : Int) * IntKind.i64.wrap ((↑text0.length : Int) + 1))).toNat
                          (Cap.ex (IntKind.i64.wrap ((↑n1 : Int) * IntKind.i64.wrap ((↑text0.length : Int) + 1))).toNat)]
                      false])
                fun v3 H1 => asSl v3 fun b3 i3 n3 c3 => LoopI (L_spec_EndsAt_4 D R) [(7, V.sl out_b0 out_i0 out_n0 out_c0), (10, V.int IntKind.i64 0), (9, V.sl b3 i3 n3 c3)] H1) := (hD _ _ _ _ _ _).trans (by kernel_rfl)
theorem L_spec_EndsAt_4_eq (hD : IsD 62 [6] D) {out_b0 out_i0 out_n0 : Nat} {out_c0 : Cap} {i0 : Int} {ends_b0 ends_i0 ends_n0 : Nat} {ends_c0 : Cap} {H0 : AH} : L_spec_EndsAt_4 D R [(7, V.sl out_b0 out_i0 out_n0 out_c0), (10, V.int IntKind.i64 i0), (9, V.sl ends_b0 ends_i0 ends_n0 ends_c0)] H0 K1 = (
  splitB (decide (i0 < (↑ends_n0 : Int))) (J_spec_EndsAt_5 D R K1 [(7, V.sl out_b0 out_i0 out_n0 out_c0), (10, V.int IntKind.i64 i0), (9, V.sl ends_b0 ends_i0 ends_n0 ends_c0)] H0)
  (J_spec_EndsAt_3 D R [(7, V.sl out_b0 out_i0 out_n0 out_c0)] H0)) := (hD _ _ _ _ _ _).trans (by kernel_rfl)
theorem J_spec_EndsAt_5_eq (hD : IsD 62 [6] D) {out_b0 out_i0 out_n0 : Nat} {out_c0 : Cap} {i0 : Int} {ends_b0 ends_i0 ends_n0 : Nat} {ends_c0 : Cap} {H0 : AH} : J_spec_EndsAt_5 D R K1 [(7, V.sl out_b0 out_i0 out_n0 out_c0), (10, V.int IntKind.i64 i0), (9, V.sl ends_b0 ends_i0 ends_n0 ends_c0)] H0 = (
  inB i0 ends_n0 ∧
  ld H0 ends_b0 (ends_i0 + i0.toNat * 1) fun v0 =>
    asBool v0 fun t0 =>
      splitB t0
        (cellsK (H0 ++ [Blk.cells [V.int IntKind.i64 i0] false]) (List.length H0) 0 1 fun l0 =>
          app (H0 ++ [Blk.cells [V.int IntKind.i64 i0] false]) 1 8 out_b0 out_i0 out_n0 out_c0 1 l0 fun b0 i1 n0 c0 H1 =>
            J_spec_EndsAt_6 D R K1 [(10, V.int IntKind.i64 i0), (7, V.sl b0 i1 n0 c0), (9, V.sl ends_b0 ends_i0 ends_n0 ends_c0)] H1)
        (J_spec_EndsAt_6 D R K1 [(10, V.int IntKind.i64 i0), (7, V.sl out_b0 out_i0 out_n0 out_c0), (9, V.sl ends_b0 ends_i0 ends_n0 ends_c0)] H0)) := (hD _ _ _ _ _ _).trans (by kernel_rfl)
theorem J_spec_EndsAt_3_eq (hD : IsD 62 [6] D) {out_b0 out_i0 out_n0 : Nat} {out_c0 : Cap} {H0 : AH} : J_spec_EndsAt_3 D R [(7, V.sl out_b0 out_i0 out_n0 out_c0)] H0 = (
  R (V.sl out_b0 out_i0 out_n0 out_c0) H0) := (hD _ _ _ _ _ _).trans (by kernel_rfl)
theorem J_spec_EndsAt_6_eq (hD : IsD 62 [6] D) {i0 : Int} {out_b0 out_i0 out_n0 : Nat} {out_c0 : Cap} {ends_b0 ends_i0 ends_n0 : Nat} {ends_c0 : Cap} {H0 : AH} : J_spec_EndsAt_6 D R K1 [(10, V.int IntKind.i64 i0), (7, V.sl out_b0 out_i0 out_n0 out_c0), (9, V.sl ends_b0 ends_i0 ends_n0 ends_c0)] H0 = (
  K1 [(7, V.sl out_b0 out_i0 out_n0 out_c0), (10, V.int IntKind.i64 (IntKind.i64.wrap (i0 + 1))), (9, V.sl ends_b0 ends_i0 ends_n0 ends_c0)] H0) := (hD _ _ _ _ _ _).trans (by kernel_rfl)

/-! ### spec_l1Marks -/
noncomputable def spec_l1Marks_b : Code := (Go.Proofs.Tryd.f55.body).getD .skip
noncomputable abbrev spec_l1Marks_p (R : V → AH → Prop) : APost := postK prog (Go.Proofs.Tryd.f55.results.toList) R
def J_spec_l1Marks_1 (D : Den) (R : V → AH → Prop) (env : Env) (H : AH) : Prop := D (cAt [1, 1, 1] spec_l1Marks_b) [] [] env H (spec_l1Marks_p R)
def L_spec_l1Marks_2 (D : Den) (R : V → AH → Prop) (env : Env) (H : AH) (K1 : Env → AH → Prop) : Prop := D (cAt [1, 1, 0, 1, 0, 0] spec_l1Marks_b) [(0, [3])] [0, 4, 3] env H (seqQ (fun e H => K1 (keepE e [0, 4, 3]) H) (blockQ 0 (seqQ (fun e H => J_spec_l1Marks_1 D R (keepE e [3]) H) (spec_l1Marks_p R))))
def J_spec_l1Marks_3 (D : Den) (R : V → AH → Prop) (K1 : Env → AH → Prop) (env : Env) (H : AH) : Prop := D (cAt [1, 1, 0, 1, 0, 0, 1] spec_l1Marks_b) [(0, [3])] [0, 4, 3] env H (seqQ (fun e H => K1 (keepE e [0, 4, 3]) H) (blockQ 0 (seqQ (fun e H => J_spec_l1Marks_1 D R (keepE e [3]) H) (spec_l1Marks_p R))))
def J_spec_l1Marks_4 (D : Den) (R : V → AH → Prop) (K1 : Env → AH → Prop) (env : Env) (H : AH) : Prop := D (cAt [1, 1, 0, 1, 0, 0, 1, 1] spec_l1Marks_b) [(0, [3])] [0, 4, 3] env H (seqQ (fun e H => K1 (keepE e [0, 4, 3]) H) (blockQ 0 (seqQ (fun e H => J_spec_l1Marks_1 D R (keepE e [3]) H) (spec_l1Marks_p R))))
def L_spec_l1Marks_5 (D : Den) (R : V → AH → Prop) (K1 : Env → AH → Prop) (env : Env) (H : AH) (K2 : Env → AH → Prop) : Prop := D (cAt [1, 1, 0, 1, 0, 0, 1, 0, 0, 1, 0, 0] spec_l1Marks_b) [(2, [4, 0, 3]), (1, [4, 0, 3]), (0, [3])] [5, 0, 4, 3] env H (seqQ (fun e H => K2 (keepE e [5, 0, 4, 3]) H) (blockQ 2 (blockQ 1 (seqQ (fun e H => J_spec_l1Marks_4 D R K1 (keepE e [4, 0, 3]) H) (seqQ (fun e H => K1 (keepE e [0, 4, 3]) H) (blockQ 0 (seqQ (fun e H => J_spec_l1Marks_1 D R (keepE e [3]) H) (spec_l1Marks_p R))))))))
def J_spec_l1Marks_6 (D : Den) (R : V → AH → Prop) (K1 : Env → AH → Prop) (K2 : Env → AH → Prop) (env : Env) (H : AH) : Prop := D (cAt [1, 1, 0, 1, 0, 0, 1, 0, 0, 1, 0, 0, 1] spec_l1Marks_b) [(2, [4, 0, 3]), (1, [4, 0, 3]), (0, [3])] [5, 0, 4, 3] env H (seqQ (fun e H => K2 (keepE e [5, 0, 4, 3]) H) (blockQ 2 (blockQ 1 (seqQ (fun e H => J_spec_l1Marks_4 D R K1 (keepE e [4, 0, 3]) H) (seqQ (fun e H => K1 (keepE e [0, 4, 3]) H) (blockQ 0 (seqQ (fun e H => J_spec_l1Marks_1 D R (keepE e [3]) H) (spec_l1Marks_p R))))))))
def J_spec_l1Marks_7 (D : Den) (R : V → AH → Prop) (K1 : Env → AH → Prop) (K2 : Env → AH → Prop) (env : Env) (H : AH) : Prop := D (cAt [1, 1, 0, 1, 0, 0, 1, 0, 0, 1, 0, 0, 1, 1] spec_l1Marks_b) [(2, [4, 0, 3]), (1, [4, 0, 3]), (0, [3])] [5, 0, 4, 3] env H (seqQ (fun e H => K2 (keepE e [5, 0, 4, 3]) H) (blockQ 2 (blockQ 1 (seqQ (fun e H => J_spec_l1Marks_4 D R K1 (keepE e [4, 0, 3]) H) (seqQ (fun e H => K1 (keepE e [0, 4, 3]) H) (blockQ 0 (seqQ (fun e H => J_spec_l1Marks_1 D R (keepE e [3]) H) (spec_l1Marks_p R))))))))
theorem spec_l1Marks_in {args : List V} {H : AH} {R : V → AH → Prop} (h : ∀ D, IsD 31 [2] D → D spec_l1Marks_b [] [] (argEnv 0 args) H (spec_l1Marks_p R)) (hn : args.length ≤ 31 := by exact of_decide_eq_true rfl) : CallsA prog spec_l1Marks args H R := callsD_of Go.Proofs.Tryd.func55 (by kernel_rfl) (by kernel_rfl) (by kernel_rfl) (enters_of Go.Proofs.Tryd.func55 (by kernel_rfl) rfl) hn h
theorem spec_l1Marks_eq (hD : IsD 31 [2] D) {c_b0 c_i0 c_n0 : Nat} {c_c0 : Cap} {H0 : AH} : D spec_l1Marks_b [] [] (argEnv 0 [V.sl c_b0 c_i0 c_n0 c_c0]) H0 (spec_l1Marks_p R) = (
  mkOk 256 256 1 ∧
  LoopI (L_spec_l1Marks_2 D R) [(0, V.sl c_b0 c_i0 c_n0 c_c0), (4, V.int IntKind.i64 0), (3, V.sl (List.length H0) 0 256 (Cap.ex 256))]
    (H0 ++ [Blk.cells (List.replicate 256 (V.bool false)) false])) := (hD _ _ _ _ _ _).trans (by kernel_rfl)
theorem L_spec_l1Marks_2_eq (hD : IsD 31 [2] D) {c_b0 c_i0 c_n0 : Nat} {c_c0 : Cap} {i0 : Int} {out_b0 out_i0 out_n0 : Nat} {out_c0 : Cap} {H0 : AH} : L_spec_l1Marks_2 D R [(0, V.sl c_b0 c_i0 c_n0 c_c0), (4, V.int IntKind.i64 i0), (3, V.sl out_b0 out_i0 out_n0 out_c0)] H0 K1 = (
  splitB (decide (i0 < (↑c_n0 : Int))) (J_spec_l1Marks_3 D R K1 [(0, V.sl c_b0 c_i0 c_n0 c_c0), (4, V.int IntKind.i64 i0), (3, V.sl out_b0 out_i0 out_n0 out_c0)] H0)
  (J_spec_l1Marks_1 D R [(3, V.sl out_b0 out_i0 out_n0 out_c0)] H0)) := (hD _ _ _ _ _ _).trans (by kernel_rfl)
theorem J_spec_l1Marks_3_eq (hD : IsD 31 [2] D) {c_b0 c_i0 c_n0 : Nat} {c_c0 : Cap} {i0 : Int} {out_b0 out_i0 out_n0 : Nat} {out_c0 : Cap} {H0 : AH} : J_spec_l1Marks_3 D R K1 [(0, V.sl c_b0 c_i0 c_n0 c_c0), (4, V.int IntKind.i64 i0), (3, V.sl out_b0 out_i0 out_n0 out_c0)] H0 = (
  inB i0 c_n0 ∧
  ld H0 c_b0 (c_i0 + i0.toNat * 2) fun v0 =>
    asInt IntKind.i64 v0 fun n0 =>
      LoopI (L_spec_l1Marks_5 D R K1) [(5, V.int IntKind.i64 n0), (0, V.sl c_b0 c_i0 c_n0 c_c0), (4, V.int IntKind.i64 i0), (3, V.sl out_b0 out_i0 out_n0 out_c0)] H0) := (hD _ _ _ _ _ _).trans (by kernel_rfl)
theorem J_spec_l1Marks_1_eq (hD : IsD 31 [2] D) {out_b0 out_i0 out_n0 : Nat} {out_c0 : Cap} {H0 : AH} : J_spec_l1Marks_1 D R [(3, V.sl out_b0 out_i0 out_n0 out_c0)] H0 = (
  R (V.sl out_b0 out_i0 out_n0 out_c0) H0) := (hD _ _ _ _ _ _).trans (by kernel_rfl)
theorem L_spec_l1Marks_5_eq (hD : IsD 31 [2] D) {b0 : Int} {c_b0 c_i0 c_n0 : Nat} {c_c0 : Cap} {i0 : Int} {out_b0 out_i0 out_n0 : Nat} {out_c0 : Cap} {H0 : AH} : L_spec_l1Marks_5 D R K1 [(5, V.int IntKind.i64 b0), (0, V.sl c_b0 c_i0 c_n0 c_c0), (4, V.int IntKind.i64 i0), (3, V.sl out_b0 out_i0 out_n0 out_c0)] H0 K2 = (
  inB i0 c_n0 ∧
  ld H0 c_b0 (c_i0 + i0.toNat * 2 + 1) fun v0 =>
    asInt IntKind.i64 v0 fun n0 =>
      splitB (decide (b0 ≤ n0))
        (J_spec_l1Marks_6 D R K1 K2 [(5, V.int IntKind.i64 b0), (0, V.sl c_b0 c_i0 c_n0 c_c0), (4, V.int IntKind.i64 i0), (3, V.sl out_b0 out_i0 out_n0 out_c0)] H0)
        (J_spec_l1Marks_4 D R K1 [(4, V.int IntKind.i64 i0), (0, V.sl c_b0 c_i0 c_n0 c_c0), (3, V.sl out_b0 out_i0 out_n0 out_c0)] H0)) := (hD _ _ _ _ _ _).trans (by kernel_rfl)
theorem J_spec_l1Marks_6_eq (hD : IsD 31 [2] D) {b0 : Int} {c_b0 c_i0 c_n0 : Nat} {c_c0 : Cap} {i0 : Int} {out_b0 out_i0 out_n0 : Nat} {out_c0 : Cap} {H0 : AH} : J_spec_l1Marks_6 D R K1 K2 [(5, V.int IntKind.i64 b0), (0, V.sl c_b0 c_i0 c_n0 c_c0), (4, V.int IntKind.i64 i0), (3, V.sl out_b0 out_i0 out_n0 out_c0)] H0 = (
  inB b0 out_n0 ∧
  stK H0 out_b0 (out_i0 + b0.toNat * 1) [V.bool true] fun H1 =>
    J_spec_l1Marks_7 D R K1 K2 [(5, V.int IntKind.i64 b0), (0, V.sl c_b0 c_i0 c_n0 c_c0), (4, V.int IntKind.i64 i0), (3, V.sl out_b0 out_i0 out_n0 out_c0)] H1) := (hD _ _ _ _ _ _).trans (by kernel_rfl)
theorem J_spec_l1Marks_4_eq (hD : IsD 31 [2] D) {i0 : Int} {c_b0 c_i0 c_n0 : Nat} {c_c0 : Cap} {out_b0 out_i0 out_n0 : Nat} {out_c0 : Cap} {H0 : AH} : J_spec_l1Marks_4 D R K1 [(4, V.int IntKind.i64 i0), (0, V.sl c_b0 c_i0 c_n0 c_c0), (3, V.sl out_b0 out_i0 out_n0 out_c0)] H0 = (
  K1 [(0, V.sl c_b0 c_i0 c_n0 c_c0), (4, V.int IntKind.i64 (IntKind.i64.wrap (i0 + 1))), (3, V.sl out_b0 out_i0 out_n0 out_c0)] H0) := (hD _ _ _ _ _ _).trans (by kernel_rfl)
theorem J_spec_l1Marks_7_eq (hD : IsD 31 [2] D) {b0 : Int} {c_b0 c_i0 c_n0 : Nat} {c_c0 : Cap} {i0 : Int} {out_b0 out_i0 out_n0 : Nat} {out_c0 : Cap} {H0 : AH} : J_spec_l1Marks_7 D R K1 K2 [(5, V.int IntKind.i64 b0), (0, V.sl c_b0 c_i0 c_n0 c_c0), (4, V.int IntKind.i64 i0), (3, V.sl out_b0 out_i0 out_n0 out_c0)] H0 = (
  K2 [(5, V.int IntKind.i64 (IntKind.i64.wrap (b0 + 1))), (0, V.sl c_b0 c_i0 c_n0 c_c0), (4, V.int IntKind.i64 i0), (3, V.sl out_b0 out_i0 out_n0 out_c0)] H0) := (hD _ _ _ _ _ _).trans (by kernel_rfl)

/-! ### impl_matcher_repeat -/
noncomputable def impl_matcher_repeat_b : Code := (Go.Proofs.Tryd.f66.body).getD .skip
noncomputable abbrev impl_matcher_repeat_p (R : V → AH → Prop) : APost := postK prog (Go.Proofs.Tryd.f66.results.toList) R
def J_impl_matcher_repeat_1 (D : Den) (R : V → AH → Prop) (env : Env) (H : AH) : Prop := D (cAt [1, 1, 1] impl_matcher_repeat_b) [] [] env H (impl_matcher_repeat_p R)
def L_impl_matcher_repeat_2 (D : Den) (R : V → AH → Prop) (env : Env) (H : AH) (K1 : Env → AH → Prop) : Prop := D (cAt [1, 1, 0, 1, 0, 0] impl_matcher_repeat_b) [(0, [9])] [10, 9, 11, 3, 0, 1] env H (seqQ (fun e H => K1 (keepE e [10, 9, 11, 3, 0, 1]) H) (blockQ 0 (seqQ (fun e H => J_impl_matcher_repeat_1 D R (keepE e [9]) H) (impl_matcher_repeat_p R))))
def J_impl_matcher_repeat_3 (D : Den) (R : V → AH → Prop) (K1 : Env → AH → Prop) (env : Env) (H : AH) : Prop := D (cAt [1, 1, 0, 1, 0, 0, 1] impl_matcher_repeat_b) [(0, [9])] [10, 9, 11, 3, 0, 1] env H (seqQ (fun e H => K1 (keepE e [10, 9, 11, 3, 0, 1]) H) (blockQ 0 (seqQ (fun e H => J_impl_matcher_repeat_1 D R (keepE e [9]) H) (impl_matcher_repeat_p R))))
def J_impl_matcher_repeat_4 (D : Den) (R : V → AH → Prop) (K1 : Env → AH → Prop) (env : Env) (H : AH) : Prop := D (cAt [1, 1, 0, 1, 0, 0, 0, 1] impl_matcher_repeat_b) [(0, [9])] [10, 9, 11, 3, 0, 1] env H (seqQ (fun e H => J_impl_matcher_repeat_3 D R K1 (keepE e [10, 9, 11, 3, 0, 1]) H) (seqQ (fun e H => K1 (keepE e [10, 9, 11, 3, 0, 1]) H) (blockQ 0 (seqQ (fun e H => J_impl_matcher_repeat_1 D R (keepE e [9]) H) (impl_matcher_repeat_p R)))))
def J_impl_matcher_repeat_5 (D : Den) (R : V → AH → Prop) (K1 : Env → AH → Prop) (env : Env) (H : AH) : Prop := D (cAt [1, 1, 0, 1, 0, 0, 1, 1] impl_matcher_repeat_b) [(0, [9])] [10, 9, 11, 3, 0, 1] env H (seqQ (fun e H => K1 (keepE e [10, 9, 11, 3, 0, 1]) H) (blockQ 0 (seqQ (fun e H => J_impl_matcher_repeat_1 D R (keepE e [9]) H) (impl_matcher_repeat_p R))))
theorem impl_matcher_repeat_in {args : List V} {H : AH} {R : V → AH → Prop} (h : ∀ D, IsD 34 [8] D → D impl_matcher_repeat_b [] [] (argEnv 0 args) H (impl_matcher_repeat_p R)) (hn : args.length ≤ 34 := by exact of_decide_eq_true rfl) : CallsA prog impl_matcher_repeat args H R := callsD_of Go.Proofs.Tryd.func66 (by kernel_rfl) (by kernel_rfl) (by kernel_rfl) (enters_of Go.Proofs.Tryd.func66 (by kernel_rfl) rfl) hn h
theorem impl_matcher_repeat_eq (hD : IsD 34 [8] D) {m_b0 m_i0 : Nat} {place0 : Int} {from_b0 from_i0 from_n0 : Nat} {from_c0 : Cap} {most0 : Int} {H0 : AH} : D impl_matcher_repeat_b [] [] (argEnv 0 [V.ptr m_b0 m_i0, V.int IntKind.i64 place0, V.sl from_b0 from_i0 from_n0 from_c0, V.int IntKind.i64 most0]) H0 (impl_matcher_repeat_p R) = (
  LoopI (L_impl_matcher_repeat_2 D R)
  [(10, V.sl from_b0 from_i0 from_n0 from_c0), (9, V.sl from_b0 from_i0 from_n0 from_c0), (11, V.int IntKind.i64 0), (3, V.int IntKind.i64 most0), (0, V.ptr m_b0 m_i0), (1, V.int IntKind.i64 place0)]
  H0) := (hD _ _ _ _ _ _).trans (by kernel_rfl)
theorem L_impl_matcher_repeat_2_eq (hD : IsD 34 [8] D) {fresh_b0 fresh_i0 fresh_n0 : Nat} {fresh_c0 : Cap} {out_b0 out_i0 out_n0 : Nat} {out_c0 : Cap} {times0 most0 : Int} {m_b0 m_i0 : Nat} {place0 : Int} {H0 : AH} : L_impl_matcher_repeat_2 D R [(10, V.sl fresh_b0 fresh_i0 fresh_n0 fresh_c0), (9, V.sl out_b0 out_i0 out_n0 out_c0), (11, V.int IntKind.i64 times0), (3, V.int IntKind.i64 most0), (0, V.ptr m_b0 m_i0),
  (1, V.int IntKind.i64 place0)] H0 K1 = (
  splitB (times0 != most0)
  (CallsA prog impl_places_isEmpty [V.sl fresh_b0 fresh_i0 fresh_n0 fresh_c0] H0 fun v0 H1 =>
    asBool v0 fun t0 =>
      J_impl_matcher_repeat_4 D R K1
        [(21, V.bool !t0), (10, V.sl fresh_b0 fresh_i0 fresh_n0 fresh_c0), (9, V.sl out_b0 out_i0 out_n0 out_c0), (11, V.int IntKind.i64 times0), (3, V.int IntKind.i64 most0), (0, V.ptr m_b0 m_i0),
          (1, V.int IntKind.i64 place0)]
        H1)
  (J_impl_matcher_repeat_4 D R K1
    [(21, V.bool false), (10, V.sl fresh_b0 fresh_i0 fresh_n0 fresh_c0), (9, V.sl out_b0 out_i0 out_n0 out_c0), (11, V.int IntKind.i64 times0), (3, V.int IntKind.i64 most0), (0, V.ptr m_b0 m_i0),
      (1, V.int IntKind.i64 place0)]
    H0)) := (hD _ _ _ _ _ _).trans (by kernel_rfl)
theorem J_impl_matcher_repeat_4_eq (hD : IsD 34 [8] D) {x210 : Bool} {fresh_b0 fresh_i0 fresh_n0 : Nat} {fresh_c0 : Cap} {out_b0 out_i0 out_n0 : Nat} {out_c0 : Cap} {times0 most0 : Int} {m_b0 m_i0 : Nat} {place0 : Int} {H0 : AH} : J_impl_matcher_repeat_4 D R K1 [(21, V.bool x210), (10, V.sl fresh_b0 fresh_i0 fresh_n0 fresh_c0), (9, V.sl out_b0 out_i0 out_n0 out_c0), (11, V.int IntKind.i64 times0), (3, V.int IntKind.i64 most0), (0, V.ptr m_b0 m_i0),
  (1, V.int IntKind.i64 place0)] H0 = (
  splitB x210
  (J_impl_matcher_repeat_3 D R K1
    [(10, V.sl fresh_b0 fresh_i0 fresh_n0 fresh_c0), (9, V.sl out_b0 out_i0 out_n0 out_c0), (11, V.int IntKind.i64 times0), (3, V.int IntKind.i64 most0), (0, V.ptr m_b0 m_i0),
      (1, V.int IntKind.i64 place0)]
    H0)
  (J_impl_matcher_repeat_1 D R [(9, V.sl out_b0 out_i0 out_n0 out_c0)] H0)) := (hD _ _ _ _ _ _).trans (by kernel_rfl)
theorem J_impl_matcher_repeat_3_eq (hD : IsD 34 [8] D) {fresh_b0 fresh_i0 fresh_n0 : Nat} {fresh_c0 : Cap} {out_b0 out_i0 out_n0 : Nat} {out_c0 : Cap} {times0 most0 : Int} {m_b0 m_i0 : Nat} {place0 : Int} {H0 : AH} : J_impl_matcher_repeat_3 D R K1 [(10, V.sl fresh_b0 fresh_i0 fresh_n0 fresh_c0), (9, V.sl out_b0 out_i0 out_n0 out_c0), (11, V.int IntKind.i64 times0), (3, V.int IntKind.i64 most0), (0, V.ptr m_b0 m_i0),
  (1, V.int IntKind.i64 place0)] H0 = (
  CallsA prog impl_matcher_ends [V.ptr m_b0 m_i0, V.int IntKind.i64 place0, V.sl fresh_b0 fresh_i0 fresh_n0 fresh_c0] H0 fun v0 H1 =>
  asSl v0 fun b0 i0 n0 c0 =>
    CallsA prog impl_places_without [V.sl b0 i0 n0 c0, V.sl out_b0 out_i0 out_n0 out_c0] H1 fun v1 H2 =>
      asSl v1 fun b1 i1 n1 c1 =>
        CallsA prog impl_places_with [V.sl out_b0 out_i0 out_n0 out_c0, V.sl b1 i1 n1 c1] H2 fun v2 H3 =>
          asSl v2 fun b2 i2 n2 c2 =>
            J_impl_matcher_repeat_5 D R K1
              [(11, V.int IntKind.i64 times0), (10, V.sl b1 i1 n1 c1), (9, V.sl b2 i2 n2 c2), (3, V.int IntKind.i64 most0), (0, V.ptr m_b0 m_i0), (1, V.int IntKind.i64 place0)] H3) := (hD _ _ _ _ _ _).trans (by kernel_rfl)
theorem J_impl_matcher_repeat_1_eq (hD : IsD 34 [8] D) {out_b0 out_i0 out_n0 : Nat} {out_c0 : Cap} {H0 : AH} : J_impl_matcher_repeat_1 D R [(9, V.sl out_b0 out_i0 out_n0 out_c0)] H0 = (
  R (V.sl out_b0 out_i0 out_n0 out_c0) H0) := (hD _ _ _ _ _ _).trans (by kernel_rfl)
theorem J_impl_matcher_repeat_5_eq (hD : IsD 34 [8] D) {times0 : Int} {fresh_b0 fresh_i0 fresh_n0 : Nat} {fresh_c0 : Cap} {out_b0 out_i0 out_n0 : Nat} {out_c0 : Cap} {most0 : Int} {m_b0 m_i0 : Nat} {place0 : Int} {H0 : AH} : J_impl_matcher_repeat_5 D R K1 [(11, V.int IntKind.i64 times0), (10, V.sl fresh_b0 fresh_i0 fresh_n0 fresh_c0), (9, V.sl out_b0 out_i0 out_n0 out_c0), (3, V.int IntKind.i64 most0), (0, V.ptr m_b0 m_i0),
  (1, V.int IntKind.i64 place0)] H0 = (
  K1
  [(10, V.sl fresh_b0 fresh_i0 fresh_n0 fresh_c0), (9, V.sl out_b0 out_i0 out_n0 out_c0), (11, V.int IntKind.i64 (IntKind.i64.wrap (times0 + 1))), (3, V.int IntKind.i64 most0), (0, V.ptr m_b0 m_i0),
    (1, V.int IntKind.i64 place0)]
  H0) := (hD _ _ _ _ _ _).trans (by kernel_rfl)

/-! ### spec_l4Case -/
noncomputable def spec_l4Case_b : Code := (Go.Proofs.Tryd.f15.body).getD .skip
noncomputable abbrev spec_l4Case_p (R : V → AH → Prop) : APost := postK prog (Go.Proofs.Tryd.f15.results.toList) R
def J_spec_l4Case_1 (D : Den) (R : V → AH → Prop) (env : Env) (H : AH) : Prop := D (cAt [1, 1, 1, 1] spec_l4Case_b) [] [] env H (spec_l4Case_p R)
def J_spec_l4Case_2 (D : Den) (R : V → AH → Prop) (env : Env) (H : AH) : Prop := D (cAt [1, 1, 1, 1, 1] spec_l4Case_b) [] [] env H (spec_l4Case_p R)
def J_spec_l4Case_3 (D : Den) (R : V → AH → Prop) (env : Env) (H : AH) : Prop := D (cAt [1, 1, 1, 1, 1, 1] spec_l4Case_b) [] [] env H (spec_l4Case_p R)
def J_spec_l4Case_4 (D : Den) (R : V → AH → Prop) (env : Env) (H : AH) : Prop := D (cAt [1, 1, 1, 1, 1, 1, 1] spec_l4Case_b) [] [] env H (spec_l4Case_p R)
theorem spec_l4Case_in {args : List V} {H : AH} {R : V → AH → Prop} (h : ∀ D, IsD 38 [2, 3] D → D spec_l4Case_b [] [] (argEnv 0 args) H (spec_l4Case_p R)) (hn : args.length ≤ 38 := by exact of_decide_eq_true rfl) : CallsA prog spec_l4Case args H R := callsD_of Go.Proofs.Tryd.func15 (by kernel_rfl) (by kernel_rfl) (by kernel_rfl) (enters_of Go.Proofs.Tryd.func15 (by kernel_rfl) rfl) hn h
theorem spec_l4Case_eq (hD : IsD 38 [2, 3] D) {r_b0 r_i0 : Nat} {H0 : AH} : D spec_l4Case_b [] [] (argEnv 0 [V.ptr r_b0 r_i0]) H0 (spec_l4Case_p R) = (
  CallsA prog spec_l1Rd_deep [V.ptr r_b0 r_i0] (H0 ++ [Blk.cells [V.sl 0 0 0 Cap.nil] false]) fun v0 H1 =>
  asInt IntKind.i64 v0 fun n0 =>
    CallsA prog spec_l1Rd_rx [V.ptr r_b0 r_i0, V.int IntKind.i64 n0] H1 fun v1 H2 =>
      asAgg v1 fun l0 =>
        uncons l0 fun v2 l1 =>
          asSl v2 fun b0 i0 n1 c0 =>
            unnil l1
              (stK (H2 ++ [Blk.cells [V.sl 0 0 0 Cap.nil] false]) (List.length H2) 0 [V.sl b0 i0 n1 c0] fun H3 =>
                ld H3 (List.length H2) 0 fun v3 =>
                  asSl v3 fun b1 i1 n2 c1 =>
                    ld H3 (List.length H2) 0 fun v4 =>
                      asSl v4 fun b2 i2 n3 c2 =>
                        CallsA prog spec_l1Rd_sample [V.ptr r_b0 r_i0, V.agg [V.sl b1 i1 n2 c1], V.int IntKind.i64 (IntKind.i64.wrap ((↑n3 : Int) - 1)), V.int IntKind.i64 0] H3 fun v5 H4 =>
                          asStr v5 fun s0 =>
                            splitB (decide ((↑s0.length : Int) > 300))
                              (inS 0 300 s0.length ∧
                                J_spec_l4Case_1 D R [(5, V.str (List.take 300 s0)), (0, V.ptr r_b0 r_i0), (4, V.ptr (List.length H2) 0), (2, V.ptr (List.length H0) 0)] H4)
                              (J_spec_l4Case_1 D R [(5, V.str s0), (0, V.ptr r_b0 r_i0), (4, V.ptr (List.length H2) 0), (2, V.ptr (List.length H0) 0)] H4))) := (hD _ _ _ _ _ _).trans (by kernel_rfl)
theorem J_spec_l4Case_1_eq (hD : IsD 38 [2, 3] D) {s0 : List UInt8} {r_b0 r_i0 x_b0 x_i0 x2_b0 x2_i0 : Nat} {H0 : AH} : J_spec_l4Case_1 D R [(5, V.str s0), (0, V.ptr r_b0 r_i0), (4, V.ptr x_b0 x_i0), (2, V.ptr x2_b0 x2_i0)] H0 = (
  CallsA prog spec_l1Rd_once [V.ptr r_b0 r_i0, V.int IntKind.i64 3] H0 fun v0 H1 =>
  asBool v0 fun t0 =>
    splitB t0
      (CallsA prog spec_l1Rd_text [V.ptr r_b0 r_i0, V.int IntKind.i64 4] H1 fun v1 H2 =>
        asStr v1 fun s1 => catOk s0.length s1.length ∧ J_spec_l4Case_2 D R [(5, V.str (s0 ++ s1)), (0, V.ptr r_b0 r_i0), (4, V.ptr x_b0 x_i0), (2, V.ptr x2_b0 x2_i0)] H2)
      (J_spec_l4Case_2 D R [(5, V.str s0), (0, V.ptr r_b0 r_i0), (4, V.ptr x_b0 x_i0), (2, V.ptr x2_b0 x2_i0)] H1)) := (hD _ _ _ _ _ _).trans (by kernel_rfl)
theorem J_spec_l4Case_2_eq (hD : IsD 38 [2, 3] D) {s0 : List UInt8} {r_b0 r_i0 x_b0 x_i0 x2_b0 x2_i0 : Nat} {H0 : AH} : J_spec_l4Case_2 D R [(5, V.str s0), (0, V.ptr r_b0 r_i0), (4, V.ptr x_b0 x_i0), (2, V.ptr x2_b0 x2_i0)] H0 = (
  CallsA prog spec_l1Rd_once [V.ptr r_b0 r_i0, V.int IntKind.i64 3] H0 fun v0 H1 =>
  asBool v0 fun t0 =>
    splitB t0
      (CallsA prog spec_l1Rd_text [V.ptr r_b0 r_i0, V.int IntKind.i64 10] H1 fun v1 H2 =>
        asStr v1 fun s1 => J_spec_l4Case_3 D R [(0, V.ptr r_b0 r_i0), (4, V.ptr x_b0 x_i0), (5, V.str s1), (2, V.ptr x2_b0 x2_i0)] H2)
      (J_spec_l4Case_3 D R [(0, V.ptr r_b0 r_i0), (4, V.ptr x_b0 x_i0), (5, V.str s0), (2, V.ptr x2_b0 x2_i0)] H1)) := (hD _ _ _ _ _ _).trans (by kernel_rfl)
theorem J_spec_l4Case_3_eq (hD : IsD 38 [2, 3] D) {r_b0 r_i0 x_b0 x_i0 : Nat} {s0 : List UInt8} {x2_b0 x2_i0 : Nat} {H0 : AH} : J_spec_l4Case_3 D R [(0, V.ptr r_b0 r_i0), (4, V.ptr x_b0 x_i0), (5, V.str s0), (2, V.ptr x2_b0 x2_i0)] H0 = (
  CallsA prog spec_l1Rd_once [V.ptr r_b0 r_i0, V.int IntKind.i64 30] H0 fun v0 H1 =>
  asBool v0 fun t0 =>
    splitB t0
      (CallsA prog spec_l1Rd_oddRx [V.ptr r_b0 r_i0, V.int IntKind.i64 2] H1 fun v1 H2 =>
        asAgg v1 fun l0 =>
          uncons l0 fun v2 l1 =>
            asSl v2 fun b0 i0 n0 c0 => unnil l1 (stK H2 x_b0 x_i0 [V.sl b0 i0 n0 c0] fun H3 => J_spec_l4Case_4 D R [(4, V.ptr x_b0 x_i0), (5, V.str s0), (2, V.ptr x2_b0 x2_i0)] H3))
      (J_spec_l4Case_4 D R [(4, V.ptr x_b0 x_i0), (5, V.str s0), (2, V.ptr x2_b0 x2_i0)] H1)) := (hD _ _ _ _ _ _).trans (by kernel_rfl)
theorem J_spec_l4Case_4_eq (hD : IsD 38 [2, 3] D) {x_b0 x_i0 : Nat} {s0 : List UInt8} {x2_b0 x2_i0 : Nat} {H0 : AH} : J_spec_l4Case_4 D R [(4, V.ptr x_b0 x_i0), (5, V.str s0), (2, V.ptr x2_b0 x2_i0)] H0 = (
  ld H0 x_b0 (x_i0 + 0) fun v0 =>
  asSl v0 fun b0 i0 n0 c0 => stK H0 x2_b0 x2_i0 [V.sl b0 i0 n0 c0] fun H1 => ld H1 x2_b0 (x2_i0 + 0) fun v1 => asSl v1 fun b1 i1 n1 c1 => R (V.tup [V.agg [V.sl b1 i1 n1 c1], V.str s0]) H1) := (hD _ _ _ _ _ _).trans (by kernel_rfl)

/-! ### spec_l4Memo_step -/
noncomputable def spec_l4Memo_step_b : Code := (Go.Proofs.Tryd.f56.body).getD .skip
noncomputable abbrev spec_l4Memo_step_p (R : V → AH → Prop) : APost := postK prog (Go.Proofs.Tryd.f56.results.toList) R
def J_spec_l4Memo_step_1 (D : Den) (R : V → AH → Prop) (env : Env) (H : AH) : Prop := D (cAt [1, 1, 1] spec_l4Memo_step_b) [] [] env H (spec_l4Memo_step_p R)
def L_spec_l4Memo_step_2 (D : Den) (R : V → AH → Prop) (env : Env) (H : AH) (K1 : Env → AH → Prop) : Prop := D (cAt [1, 1, 0, 1, 0, 0] spec_l4Memo_step_b) [(0, [7])] [7, 8, 2, 0, 1] env H (seqQ (fun e H => K1 (keepE e [7, 8, 2, 0, 1]) H) (blockQ 0 (seqQ (fun e H => J_spec_l4Memo_step_1 D R (keepE e [7]) H) (spec_l4Memo_step_p R))))
def J_spec_l4Memo_step_3 (D : Den) (R : V → AH → Prop) (K1 : Env → AH → Prop) (env : Env) (H : AH) : Prop := D (cAt [1, 1, 0, 1, 0, 0, 1] spec_l4Memo_step_b) [(0, [7])] [7, 8, 2, 0, 1] env H (seqQ (fun e H => K1 (keepE e [7, 8, 2, 0, 1]) H) (blockQ 0 (seqQ (fun e H => J_spec_l4Memo_step_1 D R (keepE e [7]) H) (spec_l4Memo_step_p R))))
def J_spec_l4Memo_step_4 (D : Den) (R : V → AH → Prop) (K1 : Env → AH → Prop) (env : Env) (H : AH) : Prop := D (cAt [1, 1, 0, 1, 0, 0, 1, 1] spec_l4Memo_step_b) [(0, [7])] [7, 8, 2, 0, 1] env H (seqQ (fun e H => K1 (keepE e [7, 8, 2, 0, 1]) H) (blockQ 0 (seqQ (fun e H => J_spec_l4Memo_step_1 D R (keepE e [7]) H) (spec_l4Memo_step_p R))))
theorem spec_l4Memo_step_in {args : List V} {H : AH} {R : V → AH → Prop} (h : ∀ D, IsD 29 [6] D → D spec_l4Memo_step_b [] [] (argEnv 0 args) H (spec_l4Memo_step_p R)) (hn : args.length ≤ 29 := by exact of_decide_eq_true rfl) : CallsA prog spec_l4Memo_step args H R := callsD_of Go.Proofs.Tryd.func56 (by kernel_rfl) (by kernel_rfl) (by kernel_rfl) (enters_of Go.Proofs.Tryd.func56 (by kernel_rfl) rfl) hn h
theorem spec_l4Memo_step_eq (hD : IsD 29 [6] D) {m_b0 m_i0 : Nat} {at0 : Int} {from_b0 from_i0 from_n0 : Nat} {from_c0 : Cap} {H0 : AH} : D spec_l4Memo_step_b [] [] (argEnv 0 [V.ptr m_b0 m_i0, V.int IntKind.i64 at0, V.sl from_b0 from_i0 from_n0 from_c0]) H0 (spec_l4Memo_step_p R) = (
  mkOk (↑from_n0 : Int) (↑from_n0 : Int) 1 ∧
  LoopI (L_spec_l4Memo_step_2 D R)
    [(7, V.sl (List.length H0) 0 (↑from_n0 : Int).toNat (Cap.ex (↑from_n0 : Int).toNat)), (8, V.int IntKind.i64 0), (2, V.sl from_b0 from_i0 from_n0 from_c0), (0, V.ptr m_b0 m_i0),
      (1, V.int IntKind.i64 at0)]
    (H0 ++ [Blk.cells (rep (↑from_n0 : Int).toNat [V.bool false]) false])) := (hD _ _ _ _ _ _).trans (by kernel_rfl)
theorem L_spec_l4Memo_step_2_eq (hD : IsD 29 [6] D) {out_b0 out_i0 out_n0 : Nat} {out_c0 : Cap} {i0 : Int} {from_b0 from_i0 from_n0 : Nat} {from_c0 : Cap} {m_b0 m_i0 : Nat} {at0 : Int} {H0 : AH} : L_spec_l4Memo_step_2 D R [(7, V.sl out_b0 out_i0 out_n0 out_c0), (8, V.int IntKind.i64 i0), (2, V.sl from_b0 from_i0 from_n0 from_c0), (0, V.ptr m_b0 m_i0), (1, V.int IntKind.i64 at0)] H0 K1 = (
  splitB (decide (i0 < (↑from_n0 : Int)))
  (J_spec_l4Memo_step_3 D R K1
    [(7, V.sl out_b0 out_i0 out_n0 out_c0), (8, V.int IntKind.i64 i0), (2, V.sl from_b0 from_i0 from_n0 from_c0), (0, V.ptr m_b0 m_i0), (1, V.int IntKind.i64 at0)] H0)
  (J_spec_l4Memo_step_1 D R [(7, V.sl out_b0 out_i0 out_n0 out_c0)] H0)) := (hD _ _ _ _ _ _).trans (by kernel_rfl)
theorem J_spec_l4Memo_step_3_eq (hD : IsD 29 [6] D) {out_b0 out_i0 out_n0 : Nat} {out_c0 : Cap} {i0 : Int} {from_b0 from_i0 from_n0 : Nat} {from_c0 : Cap} {m_b0 m_i0 : Nat} {at0 : Int} {H0 : AH} : J_spec_l4Memo_step_3 D R K1 [(7, V.sl out_b0 out_i0 out_n0 out_c0), (8, V.int IntKind.i64 i0), (2, V.sl from_b0 from_i0 from_n0 from_c0), (0, V.ptr m_b0 m_i0), (1, V.int IntKind.i64 at0)] H0 = (
  inB i0 from_n0 ∧
  ld H0 from_b0 (from_i0 + i0.toNat * 1) fun v0 =>
    asBool v0 fun t0 =>
      splitB t0
        (CallsA prog spec_l4Memo_ends [V.ptr m_b0 m_i0, V.int IntKind.i64 at0, V.int IntKind.i64 i0] H0 fun v1 H1 =>
          asSl v1 fun b0 i1 n0 c0 =>
            CallsA prog spec_l4Or [V.sl out_b0 out_i0 out_n0 out_c0, V.sl b0 i1 n0 c0] H1 fun v2 H2 =>
              asSl v2 fun b1 i2 n1 c1 =>
                J_spec_l4Memo_step_4 D R K1
                  [(8, V.int IntKind.i64 i0), (7, V.sl b1 i2 n1 c1), (2, V.sl from_b0 from_i0 from_n0 from_c0), (0, V.ptr m_b0 m_i0), (1, V.int IntKind.i64 at0)] H2)
        (J_spec_l4Memo_step_4 D R K1
          [(8, V.int IntKind.i64 i0), (7, V.sl out_b0 out_i0 out_n0 out_c0), (2, V.sl from_b0 from_i0 from_n0 from_c0), (0, V.ptr m_b0 m_i0), (1, V.int IntKind.i64 at0)] H0)) := (hD _ _ _ _ _ _).trans (by kernel_rfl)
theorem J_spec_l4Memo_step_1_eq (hD : IsD 29 [6] D) {out_b0 out_i0 out_n0 : Nat} {out_c0 : Cap} {H0 : AH} : J_spec_l4Memo_step_1 D R [(7, V.sl out_b0 out_i0 out_n0 out_c0)] H0 = (
  R (V.sl out_b0 out_i0 out_n0 out_c0) H0) := (hD _ _ _ _ _ _).trans (by kernel_rfl)
theorem J_spec_l4Memo_step_4_eq (hD : IsD 29 [6] D) {i0 : Int} {out_b0 out_i0 out_n0 : Nat} {out_c0 : Cap} {from_b0 from_i0 from_n0 : Nat} {from_c0 : Cap} {m_b0 m_i0 : Nat} {at0 : Int} {H0 : AH} : J_spec_l4Memo_step_4 D R K1 [(8, V.int IntKind.i64 i0), (7, V.sl out_b0 out_i0 out_n0 out_c0), (2, V.sl from_b0 from_i0 from_n0 from_c0), (0, V.ptr m_b0 m_i0), (1, V.int IntKind.i64 at0)] H0 = (
  K1 [(7, V.sl out_b0 out_i0 out_n0 out_c0), (8, V.int IntKind.i64 (IntKind.i64.wrap (i0 + 1))), (2, V.sl from_b0 from_i0 from_n0 from_c0), (0, V.ptr m_b0 m_i0), (1, V.int IntKind.i64 at0)] H0) := (hD _ _ _ _ _ _).trans (by kernel_rfl)

/-! ### laws_sameInts -/
noncomputable def laws_sameInts_b : Code := (Go.Proofs.Tryd.f8.body).getD .skip
noncomputable abbrev laws_sameInts_p (R : V → AH → Prop) : APost := postK prog (Go.Proofs.Tryd.f8.results.toList) R
def J_laws_sameInts_1 (D : Den) (R : V → AH → Prop) (env : Env) (H : AH) : Prop := D (cAt [1, 1] laws_sameInts_b) [] [] env H (laws_sameInts_p R)
def J_laws_sameInts_2 (D : Den) (R : V → AH → Prop) (env : Env) (H : AH) : Prop := D (cAt [1, 1, 1] laws_sameInts_b) [] [] env H (laws_sameInts_p R)
def L_laws_sameInts_3 (D : Den) (R : V → AH → Prop) (env : Env) (H : AH) (K1 : Env → AH → Prop) : Prop := D (cAt [1, 1, 0, 1, 0, 0] laws_sameInts_b) [(0, [])] [0, 1, 5] env H (seqQ (fun e H => K1 (keepE e [0, 1, 5]) H) (blockQ 0 (seqQ (fun e H => J_laws_sameInts_2 D R (keepE e []) H) (laws_sameInts_p R))))
def J_laws_sameInts_4 (D : Den) (R : V → AH → Prop) (K1 : Env → AH → Prop) (env : Env) (H : AH) : Prop := D (cAt [1, 1, 0, 1, 0, 0, 1] laws_sameInts_b) [(0, [])] [0, 1, 5] env H (seqQ (fun e H => K1 (keepE e [0, 1, 5]) H) (blockQ 0 (seqQ (fun e H => J_laws_sameInts_2 D R (keepE e []) H) (laws_sameInts_p R))))
def J_laws_sameInts_5 (D : Den) (R : V → AH → Prop) (K1 : Env → AH → Prop) (env : Env) (H : AH) : Prop := D (cAt [1, 1, 0, 1, 0, 0, 1, 1] laws_sameInts_b) [(0, [])] [0, 1, 5] env H (seqQ (fun e H => K1 (keepE e [0, 1, 5]) H) (blockQ 0 (seqQ (fun e H => J_laws_sameInts_2 D R (keepE e []) H) (laws_sameInts_p R))))
theorem laws_sameInts_in {args : List V} {H : AH} {R : V → AH → Prop} (h : ∀ D, IsD 26 [4] D → D laws_sameInts_b [] [] (argEnv 0 args) H (laws_sameInts_p R)) (hn : args.length ≤ 26 := by exact of_decide_eq_true rfl) : CallsA prog laws_sameInts args H R := callsD_of Go.Proofs.Tryd.func8 (by kernel_rfl) (by kernel_rfl) (by kernel_rfl) (enters_of Go.Proofs.Tryd.func8 (by kernel_rfl) rfl) hn h
theorem laws_sameInts_eq (hD : IsD 26 [4] D) {a_b0 a_i0 a_n0 : Nat} {a_c0 : Cap} {b_b0 b_i0 b_n0 : Nat} {b_c0 : Cap} {H0 : AH} : D laws_sameInts_b [] [] (argEnv 0 [V.sl a_b0 a_i0 a_n0 a_c0, V.sl b_b0 b_i0 b_n0 b_c0]) H0 (laws_sameInts_p R) = (
  splitB ((↑a_n0 : Int) != (↑b_n0 : Int)) (R (V.bool false) H0) (J_laws_sameInts_1 D R [(0, V.sl a_b0 a_i0 a_n0 a_c0), (1, V.sl b_b0 b_i0 b_n0 b_c0)] H0)) := (hD _ _ _ _ _ _).trans (by kernel_rfl)
theorem J_laws_sameInts_1_eq (hD : IsD 26 [4] D) {a_b0 a_i0 a_n0 : Nat} {a_c0 : Cap} {b_b0 b_i0 b_n0 : Nat} {b_c0 : Cap} {H0 : AH} : J_laws_sameInts_1 D R [(0, V.sl a_b0 a_i0 a_n0 a_c0), (1, V.sl b_b0 b_i0 b_n0 b_c0)] H0 = (
  LoopI (L_laws_sameInts_3 D R) [(0, V.sl a_b0 a_i0 a_n0 a_c0), (1, V.sl b_b0 b_i0 b_n0 b_c0), (5, V.int IntKind.i64 0)] H0) := (hD _ _ _ _ _ _).trans (by kernel_rfl)
theorem L_laws_sameInts_3_eq (hD : IsD 26 [4] D) {a_b0 a_i0 a_n0 : Nat} {a_c0 : Cap} {b_b0 b_i0 b_n0 : Nat} {b_c0 : Cap} {i0 : Int} {H0 : AH} : L_laws_sameInts_3 D R [(0, V.sl a_b0 a_i0 a_n0 a_c0), (1, V.sl b_b0 b_i0 b_n0 b_c0), (5, V.int IntKind.i64 i0)] H0 K1 = (
  splitB (decide (i0 < (↑a_n0 : Int))) (J_laws_sameInts_4 D R K1 [(1, V.sl b_b0 b_i0 b_n0 b_c0), (0, V.sl a_b0 a_i0 a_n0 a_c0), (5, V.int IntKind.i64 i0)] H0)
  (J_laws_sameInts_2 D R [] H0)) := (hD _ _ _ _ _ _).trans (by kernel_rfl)
theorem J_laws_sameInts_4_eq (hD : IsD 26 [4] D) {b_b0 b_i0 b_n0 : Nat} {b_c0 : Cap} {a_b0 a_i0 a_n0 : Nat} {a_c0 : Cap} {i0 : Int} {H0 : AH} : J_laws_sameInts_4 D R K1 [(1, V.sl b_b0 b_i0 b_n0 b_c0), (0, V.sl a_b0 a_i0 a_n0 a_c0), (5, V.int IntKind.i64 i0)] H0 = (
  inB i0 a_n0 ∧
  ld H0 a_b0 (a_i0 + i0.toNat * 1) fun v0 =>
    asInt IntKind.i64 v0 fun n0 =>
      inB i0 b_n0 ∧
        ld H0 b_b0 (b_i0 + i0.toNat * 1) fun v1 =>
          asInt IntKind.i64 v1 fun n1 =>
            splitB (n0 != n1) (R (V.bool false) H0) (J_laws_sameInts_5 D R K1 [(5, V.int IntKind.i64 i0), (0, V.sl a_b0 a_i0 a_n0 a_c0), (1, V.sl b_b0 b_i0 b_n0 b_c0)] H0)) := (hD _ _ _ _ _ _).trans (by kernel_rfl)
theorem J_laws_sameInts_2_eq (hD : IsD 26 [4] D) {H0 : AH} : J_laws_sameInts_2 D R [] H0 = (
  R (V.bool true) H0) := (hD _ _ _ _ _ _).trans (by kernel_rfl)
theorem J_laws_sameInts_5_eq (hD : IsD 26 [4] D) {i0 : Int} {a_b0 a_i0 a_n0 : Nat} {a_c0 : Cap} {b_b0 b_i0 b_n0 : Nat} {b_c0 : Cap} {H0 : AH} : J_laws_sameInts_5 D R K1 [(5, V.int IntKind.i64 i0), (0, V.sl a_b0 a_i0 a_n0 a_c0), (1, V.sl b_b0 b_i0 b_n0 b_c0)] H0 = (
  K1 [(0, V.sl a_b0 a_i0 a_n0 a_c0), (1, V.sl b_b0 b_i0 b_n0 b_c0), (5, V.int IntKind.i64 (IntKind.i64.wrap (i0 + 1)))] H0) := (hD _ _ _ _ _ _).trans (by kernel_rfl)

/-! ### internal_strconv_AppendUint -/
noncomputable def internal_strconv_AppendUint_b : Code := (Go.Proofs.Tryd.f77.body).getD .skip
noncomputable abbrev internal_strconv_AppendUint_p (R : V → AH → Prop) : APost := postK prog (Go.Proofs.Tryd.f77.results.toList) R
def J_internal_strconv_AppendUint_1 (D : Den) (R : V → AH → Prop) (env : Env) (H : AH) : Prop := D (cAt [1, 1] internal_strconv_AppendUint_b) [] [] env H (internal_strconv_AppendUint_p R)
def J_internal_strconv_AppendUint_2 (D : Den) (R : V → AH → Prop) (env : Env) (H : AH) : Prop := D (cAt [1, 0, 1, 0, 1] internal_strconv_AppendUint_b) [] [0, 1, 2] env H (seqQ (fun e H => J_internal_strconv_AppendUint_1 D R (keepE e [0, 1, 2]) H) (internal_strconv_AppendUint_p R))
theorem internal_strconv_AppendUint_in {args : List V} {H : AH} {R : V → AH → Prop} (h : ∀ D, IsD 36 [6] D → D internal_strconv_AppendUint_b [] [] (argEnv 0 args) H (internal_strconv_AppendUint_p R)) (hn : args.length ≤ 36 := by exact of_decide_eq_true rfl) : CallsA prog internal_strconv_AppendUint args H R := callsD_of Go.Proofs.Tryd.func77 (by kernel_rfl) (by kernel_rfl) (by kernel_rfl) (enters_of Go.Proofs.Tryd.func77 (by kernel_rfl) rfl) hn h
theorem internal_strconv_AppendUint_eq (hD : IsD 36 [6] D) {dst_b0 dst_i0 dst_n0 : Nat} {dst_c0 : Cap} {i0 base0 : Int} {H0 : AH} : D internal_strconv_AppendUint_b [] [] (argEnv 0 [V.sl dst_b0 dst_i0 dst_n0 dst_c0, V.int IntKind.u64 i0, V.int IntKind.i64 base0]) H0 (internal_strconv_AppendUint_p R) = (
  splitB (base0 == 10)
  (splitB (decide (i0 < 100))
    (CallsA prog internal_strconv_small [V.int IntKind.i64 (IntKind.i64.wrap i0)] H0 fun v0 H1 =>
      asStr v0 fun s0 => app H1 1 1 dst_b0 dst_i0 dst_n0 dst_c0 s0.length (List.map byteV s0) fun b0 i1 n0 c0 H2 => R (V.sl b0 i1 n0 c0) H2)
    (J_internal_strconv_AppendUint_2 D R [(1, V.int IntKind.u64 i0), (0, V.sl dst_b0 dst_i0 dst_n0 dst_c0)] H0))
  (J_internal_strconv_AppendUint_1 D R [(0, V.sl dst_b0 dst_i0 dst_n0 dst_c0), (1, V.int IntKind.u64 i0), (2, V.int IntKind.i64 base0)] H0)) := (hD _ _ _ _ _ _).trans (by kernel_rfl)
theorem J_internal_strconv_AppendUint_2_eq (hD : IsD 36 [6] D) {i0 : Int} {dst_b0 dst_i0 dst_n0 : Nat} {dst_c0 : Cap} {H0 : AH} : J_internal_strconv_AppendUint_2 D R [(1, V.int IntKind.u64 i0), (0, V.sl dst_b0 dst_i0 dst_n0 dst_c0)] H0 = (
  CallsA prog internal_strconv_numDigits [V.int IntKind.u64 i0] (H0 ++ [Blk.cells (List.replicate 24 (V.int IntKind.u8 0)) false]) fun v0 H1 =>
  asInt IntKind.i64 v0 fun n0 =>
    inS 0 n0 24 ∧
      capFit (Cap.ex 24) 1 ∧
        CallsA prog internal_strconv_formatBase10 [V.sl (List.length H0) 0 (n0 - 0).toNat (Cap.ex 24), V.int IntKind.u64 i0] H1 fun v1 H2 =>
          inS 0 n0 24 ∧
            capFit (Cap.ex 24) 1 ∧ cellsK H2 (List.length H0) 0 ((n0 - 0).toNat * 1) fun l0 => app H2 1 1 dst_b0 dst_i0 dst_n0 dst_c0 (n0 - 0).toNat l0 fun b0 i1 n1 c0 H3 => R (V.sl b0 i1 n1 c0) H3) := (hD _ _ _ _ _ _).trans (by kernel_rfl)
theorem J_internal_strconv_AppendUint_1_eq (hD : IsD 36 [6] D) {dst_b0 dst_i0 dst_n0 : Nat} {dst_c0 : Cap} {i0 base0 : Int} {H0 : AH} : J_internal_strconv_AppendUint_1 D R [(0, V.sl dst_b0 dst_i0 dst_n0 dst_c0), (1, V.int IntKind.u64 i0), (2, V.int IntKind.i64 base0)] H0 = (
  CallsA prog internal_strconv_formatBits [V.sl dst_b0 dst_i0 dst_n0 dst_c0, V.int IntKind.u64 i0, V.int IntKind.i64 base0, V.bool false, V.bool true] H0 fun v0 H1 =>
  asTup v0 fun l0 => uncons l0 fun v1 l1 => asSl v1 fun b0 i1 n0 c0 => uncons l1 fun v2 l2 => asStr v2 fun s0 => unnil l2 (R (V.sl b0 i1 n0 c0) H1)) := (hD _ _ _ _ _ _).trans (by kernel_rfl)

/-! ### internal_strconv_small -/
noncomputable def internal_strconv_small_b : Code := (Go.Proofs.Tryd.f73.body).getD .skip
noncomputable abbrev internal_strconv_small_p (R : V → AH → Prop) : APost := postK prog (Go.Proofs.Tryd.f73.results.toList) R
def J_internal_strconv_small_1 (D : Den) (R : V → AH → Prop) (env : Env) (H : AH) : Prop := D (cAt [1, 1] internal_strconv_small_b) [] [] env H (internal_strconv_small_p R)
theorem internal_strconv_small_in {args : List V} {H : AH} {R : V → AH → Prop} (h : ∀ D, IsD 15 [2] D → D internal_strconv_small_b [] [] (argEnv 0 args) H (internal_strconv_small_p R)) (hn : args.length ≤ 15 := by exact of_decide_eq_true rfl) : CallsA prog internal_strconv_small args H R := callsD_of Go.Proofs.Tryd.func73 (by kernel_rfl) (by kernel_rfl) (by kernel_rfl) (enters_of Go.Proofs.Tryd.func73 (by kernel_rfl) rfl) hn h
theorem internal_strconv_small_eq (hD : IsD 15 [2] D) {i0 : Int} {H0 : AH} : D internal_strconv_small_b [] [] (argEnv 0 [V.int IntKind.i64 i0]) H0 (internal_strconv_small_p R) = (
  splitB (decide (i0 < 10))
  (inS i0 (IntKind.i64.wrap (i0 + 1)) 36 ∧
    R
      (V.str
        (List.drop i0.toNat
          (List.take (IntKind.i64.wrap (i0 + 1)).toNat
            [48, 49, 50, 51, 52, 53, 54, 55, 56, 57, 97, 98, 99, 100, 101, 102, 103, 104, 105, 106, 107, 108, 109, 110, 111, 112, 113, 114, 115, 116, 117, 118, 119, 120, 121, 122])))
      H0)
  (J_internal_strconv_small_1 D R [(0, V.int IntKind.i64 i0)] H0)) := (hD _ _ _ _ _ _).trans (by kernel_rfl)
theorem J_internal_strconv_small_1_eq (hD : IsD 15 [2] D) {i0 : Int} {H0 : AH} : J_internal_strconv_small_1 D R [(0, V.int IntKind.i64 i0)] H0 = (
  inS (IntKind.i64.wrap (i0 * 2)) (IntKind.i64.wrap (IntKind.i64.wrap (i0 * 2) + 2)) 200 ∧
  R
    (V.str
      (List.drop (IntKind.i64.wrap (i0 * 2)).toNat
        (List.take (IntKind.i64.wrap (IntKind.i64.wrap (i0 * 2) + 2)).toNat
          [48, 48, 48, 49, 48, 50, 48, 51, 48, 52, 48, 53, 48, 54, 48, 55, 48, 56, 48, 57, 49, 48, 49, 49, 49, 50, 49, 51, 49, 52, 49, 53, 49, 54, 49, 55, 49, 56, 49, 57, 50, 48, 50, 49, 50, 50, 50,
            51, 50, 52, 50, 53, 50, 54, 50, 55, 50, 56, 50, 57, 51, 48, 51, 49, 51, 50, 51, 51, 51, 52, 51, 53, 51, 54, 51, 55, 51, 56, 51, 57, 52, 48, 52, 49, 52, 50, 52, 51, 52, 52, 52, 53, 52, 54,
            52, 55, 52, 56, 52, 57, 53, 48, 53, 49, 53, 50, 53, 51, 53, 52, 53, 53, 53, 54, 53, 55, 53, 56, 53, 57, 54, 48, 54, 49, 54, 50, 54, 51, 54, 52, 54, 53, 54, 54, 54, 55, 54, 56, 54, 57, 55,
            48, 55, 49, 55, 50, 55, 51, 55, 52, 55, 53, 55, 54, 55, 55, 55, 56, 55, 57, 56, 48, 56, 49, 56, 50, 56, 51, 56, 52, 56, 53, 56, 54, 56, 55, 56, 56, 56, 57, 57, 48, 57, 49, 57, 50, 57, 51,
            57, 52, 57, 53, 57, 54, 57, 55, 57, 56, 57, 57])))
    H0) := (hD _ _ _ _ _ _).trans (by kernel_rfl)

/-! ### spec_l1Rd_rx -/
noncomputable def spec_l1Rd_rx_b : Code := (Go.Proofs.Tryd.f33.body).getD .skip
noncomputable abbrev spec_l1Rd_rx_p (R : V → AH → Prop) : APost := postK prog (Go.Proofs.Tryd.f33.results.toList) R
def J_spec_l1Rd_rx_1 (D : Den) (R : V → AH → Prop) (env : Env) (H : AH) : Prop := D (cAt [1, 1, 1] spec_l1Rd_rx_b) [] [] env H (spec_l1Rd_rx_p R)
theorem spec_l1Rd_rx_in {args : List V} {H : AH} {R : V → AH → Prop} (h : ∀ D, IsD 19 [4] D → D spec_l1Rd_rx_b [] [] (argEnv 0 args) H (spec_l1Rd_rx_p R)) (hn : args.length ≤ 19 := by exact of_decide_eq_true rfl) : CallsA prog spec_l1Rd_rx args H R := callsD_of Go.Proofs.Tryd.func33 (by kernel_rfl) (by kernel_rfl) (by kernel_rfl) (enters_of Go.Proofs.Tryd.func33 (by kernel_rfl) rfl) hn h
theorem spec_l1Rd_rx_eq (hD : IsD 19 [4] D) {r_b0 r_i0 : Nat} {deep0 : Int} {H0 : AH} : D spec_l1Rd_rx_b [] [] (argEnv 0 [V.ptr r_b0 r_i0, V.int IntKind.i64 deep0]) H0 (spec_l1Rd_rx_p R) = (
  CallsA prog spec_l1Rd_grow [V.ptr r_b0 r_i0, V.sl (List.length (H0 ++ [Blk.cells [V.sl 0 0 0 Cap.nil] false])) 0 0 (Cap.ex 0), V.int IntKind.i64 deep0]
  (H0 ++ [Blk.cells [V.sl 0 0 0 Cap.nil] false] ++ [Blk.cells [] false]) fun v0 H1 =>
  asSl v0 fun b0 i0 n0 c0 =>
    stK (H1 ++ [Blk.cells [V.sl 0 0 0 Cap.nil] false]) (List.length H1) 0 [V.sl b0 i0 n0 c0] fun H2 =>
      ld H2 (List.length H1) 0 fun v1 =>
        asSl v1 fun b1 i1 n1 c1 =>
          CallsA prog spec_RxOk [V.agg [V.sl b1 i1 n1 c1]] H2 fun v2 H3 =>
            asBool v2 fun t0 =>
              splitB (!t0)
                (CallsA prog spec_ClassOf [V.str [97]] H3 fun v3 H4 =>
                  asSl v3 fun b2 i2 n2 c2 =>
                    stK (H4 ++ [Blk.cells [V.int IntKind.i64 2, V.sl b2 i2 n2 c2, V.sl 0 0 0 Cap.nil, V.int IntKind.i64 0, V.int IntKind.i64 0] false]) (List.length H0) 0
                      [V.sl (List.length H4) 0 1 (Cap.ex 1)] fun H5 => ld H5 (List.length H0) 0 fun v4 => asSl v4 fun b3 i3 n3 c3 => R (V.agg [V.sl b3 i3 n3 c3]) H5)
                (J_spec_l1Rd_rx_1 D R [(5, V.ptr (List.length H1) 0), (4, V.ptr (List.length H0) 0)] H3)) := (hD _ _ _ _ _ _).trans (by kernel_rfl)
theorem J_spec_l1Rd_rx_1_eq (hD : IsD 19 [4] D) {x_b0 x_i0 x4_b0 x4_i0 : Nat} {H0 : AH} : J_spec_l1Rd_rx_1 D R [(5, V.ptr x_b0 x_i0), (4, V.ptr x4_b0 x4_i0)] H0 = (
  ld H0 x_b0 (x_i0 + 0) fun v0 => asSl v0 fun b0 i0 n0 c0 => stK H0 x4_b0 x4_i0 [V.sl b0 i0 n0 c0] fun H1 => ld H1 x4_b0 (x4_i0 + 0) fun v1 => asSl v1 fun b1 i1 n1 c1 => R (V.agg [V.sl b1 i1 n1 c1]) H1) := (hD _ _ _ _ _ _).trans (by kernel_rfl)

/-! ### spec_l1Rd_off -/
noncomputable def spec_l1Rd_off_b : Code := (Go.Proofs.Tryd.f18.body).getD .skip
noncomputable abbrev spec_l1Rd_off_p (R : V → AH → Prop) : APost := postK prog (Go.Proofs.Tryd.f18.results.toList) R
def J_spec_l1Rd_off_1 (D : Den) (R : V → AH → Prop) (env : Env) (H : AH) : Prop := D (cAt [1, 1] spec_l1Rd_off_b) [] [] env H (spec_l1Rd_off_p R)
theorem spec_l1Rd_off_in {args : List V} {H : AH} {R : V → AH → Prop} (h : ∀ D, IsD 22 [6] D → D spec_l1Rd_off_b [] [] (argEnv 0 args) H (spec_l1Rd_off_p R)) (hn : args.length ≤ 22 := by exact of_decide_eq_true rfl) : CallsA prog spec_l1Rd_off args H R := callsD_of Go.Proofs.Tryd.func18 (by kernel_rfl) (by kernel_rfl) (by kernel_rfl) (enters_of Go.Proofs.Tryd.func18 (by kernel_rfl) rfl) hn h
theorem spec_l1Rd_off_eq (hD : IsD 22 [6] D) {r_b0 r_i0 : Nat} {low0 high0 : Int} {H0 : AH} : D spec_l1Rd_off_b [] [] (argEnv 0 [V.ptr r_b0 r_i0, V.int IntKind.i64 low0, V.int IntKind.i64 high0]) H0 (spec_l1Rd_off_p R) = (
  CallsA prog spec_l1Rd_once [V.ptr r_b0 r_i0, V.int IntKind.i64 24] H0 fun v0 H1 =>
  asBool v0 fun t0 =>
    splitB t0
      (CallsA prog spec_l1Rd_below [V.ptr r_b0 r_i0, V.int IntKind.i64 4]
        (H1 ++
          [Blk.cells
              [V.int IntKind.i64 (IntKind.i64.wrap (low0 - 1)), V.int IntKind.i64 (IntKind.i64.wrap (high0 + 1)), V.int IntKind.i64 (-9223372036854775808), V.int IntKind.i64 9223372036854775807]
              false])
        fun v1 H2 => asInt IntKind.i64 v1 fun n0 => inB n0 4 ∧ ld H2 (List.length H1) (0 + n0.toNat * 1) fun v2 => asInt IntKind.i64 v2 fun n1 => R (V.int IntKind.i64 n1) H2)
      (J_spec_l1Rd_off_1 D R [(0, V.ptr r_b0 r_i0), (1, V.int IntKind.i64 low0), (2, V.int IntKind.i64 high0)] H1)) := (hD _ _ _ _ _ _).trans (by kernel_rfl)
theorem J_spec_l1Rd_off_1_eq (hD : IsD 22 [6] D) {r_b0 r_i0 : Nat} {low0 high0 : Int} {H0 : AH} : J_spec_l1Rd_off_1 D R [(0, V.ptr r_b0 r_i0), (1, V.int IntKind.i64 low0), (2, V.int IntKind.i64 high0)] H0 = (
  CallsA prog spec_l1Rd_near [V.ptr r_b0 r_i0, V.int IntKind.i64 low0, V.int IntKind.i64 high0] H0 fun v0 H1 => asInt IntKind.i64 v0 fun n0 => R (V.int IntKind.i64 n0) H1) := (hD _ _ _ _ _ _).trans (by kernel_rfl)

/-! ### spec_l1Rd_next -/
noncomputable def spec_l1Rd_next_b : Code := (Go.Proofs.Tryd.f38.body).getD .skip
noncomputable abbrev spec_l1Rd_next_p (R : V → AH → Prop) : APost := postK prog (Go.Proofs.Tryd.f38.results.toList) R
def J_spec_l1Rd_next_1 (D : Den) (R : V → AH → Prop) (env : Env) (H : AH) : Prop := D (cAt [1, 1] spec_l1Rd_next_b) [] [] env H (spec_l1Rd_next_p R)
theorem spec_l1Rd_next_in {args : List V} {H : AH} {R : V → AH → Prop} (h : ∀ D, IsD 32 [2] D → D spec_l1Rd_next_b [] [] (argEnv 0 args) H (spec_l1Rd_next_p R)) (hn : args.length ≤ 32 := by exact of_decide_eq_true rfl) : CallsA prog spec_l1Rd_next args H R := callsD_of Go.Proofs.Tryd.func38 (by kernel_rfl) (by kernel_rfl) (by kernel_rfl) (enters_of Go.Proofs.Tryd.func38 (by kernel_rfl) rfl) hn h
theorem spec_l1Rd_next_eq (hD : IsD 32 [2] D) {r_b0 r_i0 : Nat} {H0 : AH} : D spec_l1Rd_next_b [] [] (argEnv 0 [V.ptr r_b0 r_i0]) H0 (spec_l1Rd_next_p R) = (
  ld H0 r_b0 (r_i0 + 1) fun v0 =>
  asInt IntKind.i64 v0 fun n0 =>
    ld H0 r_b0 r_i0 fun v1 => asSl v1 fun b0 i0 n1 c0 => splitB (decide (n0 ≥ (↑n1 : Int))) (R (V.int IntKind.i64 0) H0) (J_spec_l1Rd_next_1 D R [(0, V.ptr r_b0 r_i0)] H0)) := (hD _ _ _ _ _ _).trans (by kernel_rfl)
theorem J_spec_l1Rd_next_1_eq (hD : IsD 32 [2] D) {r_b0 r_i0 : Nat} {H0 : AH} : J_spec_l1Rd_next_1 D R [(0, V.ptr r_b0 r_i0)] H0 = (
  ld H0 r_b0 (r_i0 + 1) fun v0 =>
  asInt IntKind.i64 v0 fun n0 =>
    stK H0 r_b0 (r_i0 + 1) [V.int IntKind.i64 (IntKind.i64.wrap (n0 + 1))] fun H1 =>
      ld H1 r_b0 r_i0 fun v1 =>
        asSl v1 fun b0 i0 n1 c0 =>
          ld H1 r_b0 (r_i0 + 1) fun v2 =>
            asInt IntKind.i64 v2 fun n2 =>
              inB (IntKind.i64.wrap (n2 - 1)) n1 ∧ ld H1 b0 (i0 + (IntKind.i64.wrap (n2 - 1)).toNat * 1) fun v3 => asInt IntKind.u8 v3 fun n3 => R (V.int IntKind.i64 (IntKind.i64.wrap n3)) H1) := (hD _ _ _ _ _ _).trans (by kernel_rfl)

/-! ### impl_timesOk -/
noncomputable def impl_timesOk_b : Code := (Go.Proofs.Tryd.f62.body).getD .skip
noncomputable abbrev impl_timesOk_p (R : V → AH → Prop) : APost := postK prog (Go.Proofs.Tryd.f62.results.toList) R
def J_impl_timesOk_1 (D : Den) (R : V → AH → Prop) (env : Env) (H : AH) : Prop := D (cAt [1, 1] impl_timesOk_b) [] [] env H (impl_timesOk_p R)
theorem impl_timesOk_in {args : List V} {H : AH} {R : V → AH → Prop} (h : ∀ D, IsD 20 [4] D → D impl_timesOk_b [] [] (argEnv 0 args) H (impl_timesOk_p R)) (hn : args.length ≤ 20 := by exact of_decide_eq_true rfl) : CallsA prog impl_timesOk args H R := callsD_of Go.Proofs.Tryd.func62 (by kernel_rfl) (by kernel_rfl) (by kernel_rfl) (enters_of Go.Proofs.Tryd.func62 (by kernel_rfl) rfl) hn h
theorem impl_timesOk_eq (hD : IsD 20 [4] D) {low0 high0 : Int} {H0 : AH} : D impl_timesOk_b [] [] (argEnv 0 [V.int IntKind.i64 low0, V.int IntKind.i64 high0]) H0 (impl_timesOk_p R) = (
  CallsA prog impl_within [V.int IntKind.i64 low0, V.int IntKind.i64 0, V.int IntKind.i64 30] H0 fun v0 H1 =>
  asBool v0 fun t0 =>
    splitB t0
      (splitB (high0 == -1) (J_impl_timesOk_1 D R [(4, V.bool true)] H1)
        (CallsA prog impl_within [V.int IntKind.i64 high0, V.int IntKind.i64 low0, V.int IntKind.i64 30] H1 fun v1 H2 =>
          asBool v1 fun t1 => splitB t1 (J_impl_timesOk_1 D R [(4, V.bool (high0 != 0))] H2) (J_impl_timesOk_1 D R [(4, V.bool false)] H2)))
      (J_impl_timesOk_1 D R [(4, V.bool false)] H1)) := (hD _ _ _ _ _ _).trans (by kernel_rfl)
theorem J_impl_timesOk_1_eq (hD : IsD 20 [4] D) {x40 : Bool} {H0 : AH} : J_impl_timesOk_1 D R [(4, V.bool x40)] H0 = (
  R (V.bool x40) H0) := (hD _ _ _ _ _ _).trans (by kernel_rfl)

/-! ### impl_within -/
noncomputable def impl_within_b : Code := (Go.Proofs.Tryd.f23.body).getD .skip
noncomputable abbrev impl_within_p (R : V → AH → Prop) : APost := postK prog (Go.Proofs.Tryd.f23.results.toList) R
def J_impl_within_1 (D : Den) (R : V → AH → Prop) (env : Env) (H : AH) : Prop := D (cAt [1, 1] impl_within_b) [] [] env H (impl_within_p R)
theorem impl_within_in {args : List V} {H : AH} {R : V → AH → Prop} (h : ∀ D, IsD 15 [6] D → D impl_within_b [] [] (argEnv 0 args) H (impl_within_p R)) (hn : args.length ≤ 15 := by exact of_decide_eq_true rfl) : CallsA prog impl_within args H R := callsD_of Go.Proofs.Tryd.func23 (by kernel_rfl) (by kernel_rfl) (by kernel_rfl) (enters_of Go.Proofs.Tryd.func23 (by kernel_rfl) rfl) hn h
theorem impl_within_eq (hD : IsD 15 [6] D) {n0 low0 high0 : Int} {H0 : AH} : D impl_within_b [] [] (argEnv 0 [V.int IntKind.i64 n0, V.int IntKind.i64 low0, V.int IntKind.i64 high0]) H0 (impl_within_p R) = (
  splitB (decide (n0 ≥ low0)) (J_impl_within_1 D R [(6, V.bool (decide (n0 ≤ high0)))] H0) (J_impl_within_1 D R [(6, V.bool false)] H0)) := (hD _ _ _ _ _ _).trans (by kernel_rfl)
theorem J_impl_within_1_eq (hD : IsD 15 [6] D) {x60 : Bool} {H0 : AH} : J_impl_within_1 D R [(6, V.bool x60)] H0 = (
  R (V.bool x60) H0) := (hD _ _ _ _ _ _).trans (by kernel_rfl)

/-! ### spec_l1In -/
noncomputable def spec_l1In_b : Code := (Go.Proofs.Tryd.f20.body).getD .skip
noncomputable abbrev spec_l1In_p (R : V → AH → Prop) : APost := postK prog (Go.Proofs.Tryd.f20.results.toList) R
def J_spec_l1In_1 (D : Den) (R : V → AH → Prop) (env : Env) (H : AH) : Prop := D (cAt [1, 1] spec_l1In_b) [] [] env H (spec_l1In_p R)
theorem spec_l1In_in {args : List V} {H : AH} {R : V → AH → Prop} (h : ∀ D, IsD 15 [6] D → D spec_l1In_b [] [] (argEnv 0 args) H (spec_l1In_p R)) (hn : args.length ≤ 15 := by exact of_decide_eq_true rfl) : CallsA prog spec_l1In args H R := callsD_of Go.Proofs.Tryd.func20 (by kernel_rfl) (by kernel_rfl) (by kernel_rfl) (enters_of Go.Proofs.Tryd.func20 (by kernel_rfl) rfl) hn h
theorem spec_l1In_eq (hD : IsD 15 [6] D) {n0 low0 high0 : Int} {H0 : AH} : D spec_l1In_b [] [] (argEnv 0 [V.int IntKind.i64 n0, V.int IntKind.i64 low0, V.int IntKind.i64 high0]) H0 (spec_l1In_p R) = (
  splitB (decide (n0 ≥ low0)) (J_spec_l1In_1 D R [(6, V.bool (decide (n0 ≤ high0)))] H0) (J_spec_l1In_1 D R [(6, V.bool false)] H0)) := (hD _ _ _ _ _ _).trans (by kernel_rfl)
theorem J_spec_l1In_1_eq (hD : IsD 15 [6] D) {x60 : Bool} {H0 : AH} : J_spec_l1In_1 D R [(6, V.bool x60)] H0 = (
  R (V.bool x60) H0) := (hD _ _ _ _ _ _).trans (by kernel_rfl)

/-! ### internal_strconv_isPowerOfTwo -/
noncomputable def internal_strconv_isPowerOfTwo_b : Code := (Go.Proofs.Tryd.f84.body).getD .skip
noncomputable abbrev internal_strconv_isPowerOfTwo_p (R : V → AH → Prop) : APost := postK prog (Go.Proofs.Tryd.f84.results.toList) R
theorem internal_strconv_isPowerOfTwo_in {args : List V} {H : AH} {R : V → AH → Prop} (h : ∀ D, IsD 8 [2] D → D internal_strconv_isPowerOfTwo_b [] [] (argEnv 0 args) H (internal_strconv_isPowerOfTwo_p R)) (hn : args.length ≤ 8 := by exact of_decide_eq_true rfl) : CallsA prog internal_strconv_isPowerOfTwo args H R := callsD_of Go.Proofs.Tryd.func84 (by kernel_rfl) (by kernel_rfl) (by kernel_rfl) (enters_of Go.Proofs.Tryd.func84 (by kernel_rfl) rfl) hn h
theorem internal_strconv_isPowerOfTwo_eq (hD : IsD 8 [2] D) {x0 : Int} {H0 : AH} : D internal_strconv_isPowerOfTwo_b [] [] (argEnv 0 [V.int IntKind.i64 x0]) H0 (internal_strconv_isPowerOfTwo_p R) = (
  R (V.bool (IntKind.i64.wrap (↑(BitVec.ofInt 64 x0 &&& BitVec.ofInt 64 (IntKind.i64.wrap (x0 - 1))).toNat : Int) == 0)) H0) := (hD _ _ _ _ _ _).trans (by kernel_rfl)

/-! ### impl_nodeOk_1 -/
noncomputable def impl_nodeOk_1_b : Code := (Go.Proofs.Tryd.f61.body).getD .skip
noncomputable abbrev impl_nodeOk_1_p (R : V → AH → Prop) : APost := postK prog (Go.Proofs.Tryd.f61.results.toList) R
theorem impl_nodeOk_1_in {args : List V} {H : AH} {R : V → AH → Prop} (h : ∀ D, IsD 9 [3] D → D impl_nodeOk_1_b [] [] (argEnv 0 args) H (impl_nodeOk_1_p R)) (hn : args.length ≤ 9 := by exact of_decide_eq_true rfl) : CallsA prog impl_nodeOk_1 args H R := callsD_of Go.Proofs.Tryd.func61 (by kernel_rfl) (by kernel_rfl) (by kernel_rfl) (enters_of Go.Proofs.Tryd.func61 (by kernel_rfl) rfl) hn h
theorem impl_nodeOk_1_eq (hD : IsD 9 [3] D) {kid0 : Int} {x1_b0 x1_i0 : Nat} {H0 : AH} : D impl_nodeOk_1_b [] [] (argEnv 0 [V.int IntKind.i64 kid0, V.ptr x1_b0 x1_i0]) H0 (impl_nodeOk_1_p R) = (
  ld H0 x1_b0 x1_i0 fun v0 =>
  asInt IntKind.i64 v0 fun n0 => CallsA prog impl_within [V.int IntKind.i64 kid0, V.int IntKind.i64 0, V.int IntKind.i64 (IntKind.i64.wrap (n0 - 1))] H0 fun v1 H1 => asBool v1 fun t0 => R (V.bool !t0) H1) := (hD _ _ _ _ _ _).trans (by kernel_rfl)

/-! ### impl_size_impl_RNode -/
noncomputable def impl_size_impl_RNode_b : Code := (Go.Proofs.Tryd.f42.body).getD .skip
noncomputable abbrev impl_size_impl_RNode_p (R : V → AH → Prop) : APost := postK prog (Go.Proofs.Tryd.f42.results.toList) R
theorem impl_size_impl_RNode_in {args : List V} {H : AH} {R : V → AH → Prop} (h : ∀ D, IsD 5 [2] D → D impl_size_impl_RNode_b [] [] (argEnv 0 args) H (impl_size_impl_RNode_p R)) (hn : args.length ≤ 5 := by exact of_decide_eq_true rfl) : CallsA prog impl_size_impl_RNode args H R := callsD_of Go.Proofs.Tryd.func42 (by kernel_rfl) (by kernel_rfl) (by kernel_rfl) (enters_of Go.Proofs.Tryd.func42 (by kernel_rfl) rfl) hn h
theorem impl_size_impl_RNode_eq (hD : IsD 5 [2] D) {list_b0 list_i0 list_n0 : Nat} {list_c0 : Cap} {H0 : AH} : D impl_size_impl_RNode_b [] [] (argEnv 0 [V.sl list_b0 list_i0 list_n0 list_c0]) H0 (impl_size_impl_RNode_p R) = (
  R (V.int IntKind.i64 (↑list_n0 : Int)) H0) := (hD _ _ _ _ _ _).trans (by kernel_rfl)

/-! ### impl_length -/
noncomputable def impl_length_b : Code := (Go.Proofs.Tryd.f24.body).getD .skip
noncomputable abbrev impl_length_p (R : V → AH → Prop) : APost := postK prog (Go.Proofs.Tryd.f24.results.toList) R
theorem impl_length_in {args : List V} {H : AH} {R : V → AH → Prop} (h : ∀ D, IsD 5 [2] D → D impl_length_b [] [] (argEnv 0 args) H (impl_length_p R)) (hn : args.length ≤ 5 := by exact of_decide_eq_true rfl) : CallsA prog impl_length args H R := callsD_of Go.Proofs.Tryd.func24 (by kernel_rfl) (by kernel_rfl) (by kernel_rfl) (enters_of Go.Proofs.Tryd.func24 (by kernel_rfl) rfl) hn h
theorem impl_length_eq (hD : IsD 5 [2] D) {text0 : List UInt8} {H0 : AH} : D impl_length_b [] [] (argEnv 0 [V.str text0]) H0 (impl_length_p R) = (
  R (V.int IntKind.i64 (↑text0.length : Int)) H0) := (hD _ _ _ _ _ _).trans (by kernel_rfl)

end Go.Proofs.YtpjkammmoaeheaaDoor.Aw

/- What the calculus asks of the code of each function: printed by a program of this claim's own (wip/aw/Gen.lean, mkw.py), checked by the kernel. -/
set_option maxRecDepth 100000
set_option linter.unusedVariables false
namespace Go.Proofs.YtpjkammmoaeheaaDoor.Aw
open Go Go.RowKit

variable {D : Den} {R : V → AH → Prop} {K1 K2 K3 K4 : Env → AH → Prop} {H0 : AH}

/-! ### spec_l4Memo_find -/
noncomputable def spec_l4Memo_find_b : Code := (Go.Proofs.Tryd.f41.body).getD .skip
noncomputable abbrev spec_l4Memo_find_p (R : V → AH → Prop) : APost := postK prog (Go.Proofs.Tryd.f41.results.toList) R
def J_spec_l4Memo_find_1 (D : Den) (R : V → AH → Prop) (env : Env) (H : AH) : Prop := D (cAt [1, 1, 1, 1, 1, 1] spec_l4Memo_find_b) [] [] env H (spec_l4Memo_find_p R)
def J_spec_l4Memo_find_2 (D : Den) (R : V → AH → Prop) (env : Env) (H : AH) : Prop := D (cAt [1, 1, 1, 1, 1, 0, 1, 0, 1, 1, 1, 0, 1] spec_l4Memo_find_b) [(0, [8])] [8] env H (blockQ 0 (seqQ (fun e H => J_spec_l4Memo_find_1 D R (keepE e [8]) H) (spec_l4Memo_find_p R)))
def J_spec_l4Memo_find_3 (D : Den) (R : V → AH → Prop) (env : Env) (H : AH) : Prop := D (cAt [1, 1, 1, 1, 1, 0, 1, 0, 1, 1, 1, 1, 1, 1, 1, 1, 1, 1, 1, 1, 1, 1, 1, 0, 1] spec_l4Memo_find_b) [(0, [8])] [8] env H (blockQ 0 (seqQ (fun e H => J_spec_l4Memo_find_1 D R (keepE e [8]) H) (spec_l4Memo_find_p R)))
def L_spec_l4Memo_find_4 (D : Den) (R : V → AH → Prop) (env : Env) (H : AH) (K1 : Env → AH → Prop) : Prop := D (cAt [1, 1, 1, 1, 1, 0, 1, 0, 1, 1, 1, 1, 1, 1, 1, 1, 1, 1, 1, 1, 1, 1, 1, 0, 0, 1, 0, 0] spec_l4Memo_find_b) [(1, [8, 0, 7, 9]), (0, [8])] [9, 10, 8, 0, 7] env H (seqQ (fun e H => K1 (keepE e [9, 10, 8, 0, 7]) H) (blockQ 1 (seqQ (fun e H => J_spec_l4Memo_find_3 D R (keepE e [8, 0, 7, 9]) H) (blockQ 0 (seqQ (fun e H => J_spec_l4Memo_find_1 D R (keepE e [8]) H) (spec_l4Memo_find_p R))))))
def J_spec_l4Memo_find_5 (D : Den) (R : V → AH → Prop) (K1 : Env → AH → Prop) (env : Env) (H : AH) : Prop := D (cAt [1, 1, 1, 1, 1, 0, 1, 0, 1, 1, 1, 1, 1, 1, 1, 1, 1, 1, 1, 1, 1, 1, 1, 0, 0, 1, 0, 0, 1] spec_l4Memo_find_b) [(1, [8, 0, 7, 9]), (0, [8])] [9, 10, 8, 0, 7] env H (seqQ (fun e H => K1 (keepE e [9, 10, 8, 0, 7]) H) (blockQ 1 (seqQ (fun e H => J_spec_l4Memo_find_3 D R (keepE e [8, 0, 7, 9]) H) (blockQ 0 (seqQ (fun e H => J_spec_l4Memo_find_1 D R (keepE e [8]) H) (spec_l4Memo_find_p R))))))
def J_spec_l4Memo_find_6 (D : Den) (R : V → AH → Prop) (K1 : Env → AH → Prop) (env : Env) (H : AH) : Prop := D (cAt [1, 1, 1, 1, 1, 0, 1, 0, 1, 1, 1, 1, 1, 1, 1, 1, 1, 1, 1, 1, 1, 1, 1, 0, 0, 1, 0, 0, 1, 1] spec_l4Memo_find_b) [(1, [8, 0, 7, 9]), (0, [8])] [9, 10, 8, 0, 7] env H (seqQ (fun e H => K1 (keepE e [9, 10, 8, 0, 7]) H) (blockQ 1 (seqQ (fun e H => J_spec_l4Memo_find_3 D R (keepE e [8, 0, 7, 9]) H) (blockQ 0 (seqQ (fun e H => J_spec_l4Memo_find_1 D R (keepE e [8]) H) (spec_l4Memo_find_p R))))))
def J_spec_l4Memo_find_7 (D : Den) (R : V → AH → Prop) (env : Env) (H : AH) : Prop := D (cAt [1, 1, 1, 1, 1, 0, 1, 0, 1, 1, 1, 1, 1, 1, 1, 1, 1, 1, 1, 1, 1, 1, 1, 0, 1, 1] spec_l4Memo_find_b) [(0, [8])] [8] env H (blockQ 0 (seqQ (fun e H => J_spec_l4Memo_find_1 D R (keepE e [8]) H) (spec_l4Memo_find_p R)))
def L_spec_l4Memo_find_8 (D : Den) (R : V → AH → Prop) (env : Env) (H : AH) (K1 : Env → AH → Prop) : Prop := D (cAt [1, 1, 1, 1, 1, 0, 1, 0, 1, 1, 1, 1, 1, 1, 1, 1, 1, 1, 1, 1, 1, 1, 1, 0, 1, 1, 1, 1, 0, 0] spec_l4Memo_find_b) [(3, [8]), (0, [8])] [9, 8, 11, 0, 7] env H (seqQ (fun e H => K1 (keepE e [9, 8, 11, 0, 7]) H) (blockQ 3 (blockQ 0 (seqQ (fun e H => J_spec_l4Memo_find_1 D R (keepE e [8]) H) (spec_l4Memo_find_p R)))))
def J_spec_l4Memo_find_9 (D : Den) (R : V → AH → Prop) (K1 : Env → AH → Prop) (env : Env) (H : AH) : Prop := D (cAt [1, 1, 1, 1, 1, 0, 1, 0, 1, 1, 1, 1, 1, 1, 1, 1, 1, 1, 1, 1, 1, 1, 1, 0, 1, 1, 1, 1, 0, 0, 1] spec_l4Memo_find_b) [(3, [8]), (0, [8])] [9, 8, 11, 0, 7] env H (seqQ (fun e H => K1 (keepE e [9, 8, 11, 0, 7]) H) (blockQ 3 (blockQ 0 (seqQ (fun e H => J_spec_l4Memo_find_1 D R (keepE e [8]) H) (spec_l4Memo_find_p R)))))
def J_spec_l4Memo_find_10 (D : Den) (R : V → AH → Prop) (K1 : Env → AH → Prop) (env : Env) (H : AH) : Prop := D (cAt [1, 1, 1, 1, 1, 0, 1, 0, 1, 1, 1, 1, 1, 1, 1, 1, 1, 1, 1, 1, 1, 1, 1, 0, 1, 1, 1, 1, 0, 0, 1, 1] spec_l4Memo_find_b) [(3, [8]), (0, [8])] [9, 8, 11, 0, 7] env H (seqQ (fun e H => K1 (keepE e [9, 8, 11, 0, 7]) H) (blockQ 3 (blockQ 0 (seqQ (fun e H => J_spec_l4Memo_find_1 D R (keepE e [8]) H) (spec_l4Memo_find_p R)))))
theorem spec_l4Memo_find_in {args : List V} {H : AH} {R : V → AH → Prop} (h : ∀ D, IsD 182 [6] D → D spec_l4Memo_find_b [] [] (argEnv 0 args) H (spec_l4Memo_find_p R)) (hn : args.length ≤ 182 := by exact of_decide_eq_true rfl) : CallsA prog spec_l4Memo_find args H R := callsD_of Go.Proofs.Tryd.func41 (by kernel_rfl) (by kernel_rfl) (by kernel_rfl) (enters_of Go.Proofs.Tryd.func41 (by kernel_rfl) rfl) hn h
theorem spec_l4Memo_find_eq (hD : IsD 182 [6] D) {m_b0 m_i0 : Nat} {at0 from0 : Int} {H0 : AH} : D spec_l4Memo_find_b [] [] (argEnv 0 [V.ptr m_b0 m_i0, V.int IntKind.i64 at0, V.int IntKind.i64 from0]) H0 (spec_l4Memo_find_p R) = (
  ld H0 m_b0 m_i0 fun v0 =>
  asSl v0 fun b0 i0 n0 c0 =>
    inB at0 n0 ∧
      ld H0 b0 (i0 + at0.toNat * 5 + 0) fun v1 =>
        asInt IntKind.i64 v1 fun n1 =>
          ld H0 b0 (i0 + at0.toNat * 5 + 1) fun v2 =>
            asSl v2 fun b1 i1 n2 c1 =>
              ld H0 b0 (i0 + at0.toNat * 5 + 2) fun v3 =>
                asSl v3 fun b2 i2 n3 c2 =>
                  ld H0 b0 (i0 + at0.toNat * 5 + 3) fun v4 =>
                    asInt IntKind.i64 v4 fun n4 =>
                      ld H0 b0 (i0 + at0.toNat * 5 + 4) fun v5 =>
                        asInt IntKind.i64 v5 fun n5 =>
                          stK (H0 ++ [Blk.cells [V.int IntKind.i64 0, V.sl 0 0 0 Cap.nil, V.sl 0 0 0 Cap.nil, V.int IntKind.i64 0, V.int IntKind.i64 0] false]) (List.length H0) 0
                            [V.int IntKind.i64 n1, V.sl b1 i1 n2 c1, V.sl b2 i2 n3 c2, V.int IntKind.i64 n4, V.int IntKind.i64 n5] fun H1 =>
                            ld H1 m_b0 (m_i0 + 1) fun v6 =>
                              asStr v6 fun s0 =>
                                mkOk (IntKind.i64.wrap ((↑s0.length : Int) + 1)) (IntKind.i64.wrap ((↑s0.length : Int) + 1)) 1 ∧
                                  ld (H1 ++ [Blk.cells (rep (IntKind.i64.wrap ((↑s0.length : Int) + 1)).toNat [V.bool false]) false]) m_b0 (m_i0 + 1) fun v7 =>
                                    asStr v7 fun s1 =>
                                      mkOk (IntKind.i64.wrap ((↑s1.length : Int) + 1)) (IntKind.i64.wrap ((↑s1.length : Int) + 1)) 1 ∧
                                        inB from0 (IntKind.i64.wrap ((↑s1.length : Int) + 1)).toNat ∧
                                          stK
                                            (H1 ++ [Blk.cells (rep (IntKind.i64.wrap ((↑s0.length : Int) + 1)).toNat [V.bool false]) false] ++
                                              [Blk.cells (rep (IntKind.i64.wrap ((↑s1.length : Int) + 1)).toNat [V.bool false]) false])
                                            (List.length (H1 ++ [Blk.cells (rep (IntKind.i64.wrap ((↑s0.length : Int) + 1)).toNat [V.bool false]) false])) (0 + from0.toNat * 1) [V.bool true] fun H2 =>
                                            ld H2 (List.length H0) 0 fun v8 =>
                                              asInt IntKind.i64 v8 fun n6 =>
                                                splitB (n6 == 1)
                                                  (R
                                                    (V.sl (List.length (H1 ++ [Blk.cells (rep (IntKind.i64.wrap ((↑s0.length : Int) + 1)).toNat [V.bool false]) false])) 0
                                                      (IntKind.i64.wrap ((↑s1.length : Int) + 1)).toNat (Cap.ex (IntKind.i64.wrap ((↑s1.length : Int) + 1)).toNat))
                                                    H2)
                                                  (splitB (n6 == 2)
                                                    (ld H2 m_b0 (m_i0 + 1) fun v9 =>
                                                      asStr v9 fun s2 =>
                                                        splitB (decide (from0 < (↑s2.length : Int)))
                                                          (ld H2 (List.length H0) 1 fun v10 =>
                                                            asSl v10 fun b3 i3 n7 c3 =>
                                                              ld H2 m_b0 (m_i0 + 1) fun v11 =>
                                                                asStr v11 fun s3 =>
                                                                  inB from0 s3.length ∧
                                                                    CallsA prog spec_l1Marks [V.sl b3 i3 n7 c3] H2 fun v12 H3 =>
                                                                      asSl v12 fun b4 i4 n8 c4 =>
                                                                        H3.cell m_b0 (m_i0 + 1) = some (V.str s3) ∧
                                                                          inB (↑(byteAt s3 from0).toNat : Int) n8 ∧
                                                                            ld H3 b4 (i4 + (↑(byteAt s3 from0).toNat : Int).toNat * 1) fun v13 =>
                                                                              asBool v13 fun t0 =>
                                                                                J_spec_l4Memo_find_2 D R
                                                                                  [(63, V.bool t0), (2, V.int IntKind.i64 from0),
                                                                                    (8,
                                                                                      V.sl (List.length H1) 0 (IntKind.i64.wrap ((↑s0.length : Int) + 1)).toNat
                                                                                        (Cap.ex (IntKind.i64.wrap ((↑s0.length : Int) + 1)).toNat))]
                                                                                  H3)
                                                          (J_spec_l4Memo_find_2 D R
                                                            [(63, V.bool false), (2, V.int IntKind.i64 from0),
                                                              (8, V.sl (List.length H1) 0 (IntKind.i64.wrap ((↑s0.length : Int) + 1)).toNat (Cap.ex (IntKind.i64.wrap ((↑s0.length : Int) + 1)).toNat))]
                                                            H2))
                                                    (splitB (n6 == 3)
                                                      (ld H2 (List.length H0) 2 fun v14 =>
                                                        asSl v14 fun b5 i5 n9 c5 =>
                                                          inB 1 n9 ∧
                                                            ld H2 b5 (i5 + 1) fun v15 =>
                                                              asInt IntKind.i64 v15 fun n10 =>
                                                                ld H2 (List.length H0) 2 fun v16 =>
                                                                  asSl v16 fun b6 i6 n11 c6 =>
                                                                    inB 0 n11 ∧
                                                                      ld H2 b6 i6 fun v17 =>
                                                                        asInt IntKind.i64 v17 fun n12 =>
                                                                          CallsA prog spec_l4Memo_ends [V.ptr m_b0 m_i0, V.int IntKind.i64 n12, V.int IntKind.i64 from0] H2 fun v18 H4 =>
                                                                            asSl v18 fun b7 i7 n13 c7 =>
                                                                              H4.cell b5 (i5 + 1) = some (V.int IntKind.i64 n10) ∧
                                                                                H4.cell (List.length H0) 2 = some (V.sl b5 i5 n9 c5) ∧
                                                                                  CallsA prog spec_l4Memo_step [V.ptr m_b0 m_i0, V.int IntKind.i64 n10, V.sl b7 i7 n13 c7] H4 fun v19 H5 =>
                                                                                    asSl v19 fun b8 i8 n14 c8 => R (V.sl b8 i8 n14 c8) H5)
                                                      (splitB (n6 == 4)
                                                        (ld H2 (List.length H0) 2 fun v20 =>
                                                          asSl v20 fun b9 i9 n15 c9 =>
                                                            inB 0 n15 ∧
                                                              ld H2 b9 i9 fun v21 =>
                                                                asInt IntKind.i64 v21 fun n16 =>
                                                                  ld H2 (List.length H0) 2 fun v22 =>
                                                                    asSl v22 fun b10 i10 n17 c10 =>
                                                                      inB 1 n17 ∧
                                                                        ld H2 b10 (i10 + 1) fun v23 =>
                                                                          asInt IntKind.i64 v23 fun n18 =>
                                                                            CallsA prog spec_l4Memo_ends [V.ptr m_b0 m_i0, V.int IntKind.i64 n16, V.int IntKind.i64 from0] H2 fun v24 H6 =>
                                                                              asSl v24 fun b11 i11 n19 c11 =>
                                                                                H6.cell b10 (i10 + 1) = some (V.int IntKind.i64 n18) ∧
                                                                                  H6.cell (List.length H0) 2 = some (V.sl b10 i10 n17 c10) ∧
                                                                                    CallsA prog spec_l4Memo_ends [V.ptr m_b0 m_i0, V.int IntKind.i64 n18, V.int IntKind.i64 from0] H6 fun v25 H7 =>
                                                                                      asSl v25 fun b12 i12 n20 c12 =>
                                                                                        CallsA prog spec_l4Or [V.sl b11 i11 n19 c11, V.sl b12 i12 n20 c12] H7 fun v26 H8 =>
                                                                                          asSl v26 fun b13 i13 n21 c13 => R (V.sl b13 i13 n21 c13) H8)
                                                        (splitB (n6 == 5)
                                                          (ld H2 (List.length H0) 2 fun v27 =>
                                                            asSl v27 fun b14 i14 n22 c14 =>
                                                              inB 0 n22 ∧
                                                                ld H2 b14 i14 fun v28 =>
                                                                  asInt IntKind.i64 v28 fun n23 =>
                                                                    CallsA prog 58
                                                                      [V.ptr m_b0 m_i0, V.int IntKind.i64 n23,
                                                                        V.sl (List.length (H1 ++ [Blk.cells (rep (IntKind.i64.wrap ((↑s0.length : Int) + 1)).toNat [V.bool false]) false])) 0
                                                                          (IntKind.i64.wrap ((↑s1.length : Int) + 1)).toNat (Cap.ex (IntKind.i64.wrap ((↑s1.length : Int) + 1)).toNat)]
                                                                      H2 fun v29 H9 => asSl v29 fun b15 i15 n24 c15 => R (V.sl b15 i15 n24 c15) H9)
                                                          (splitB (n6 == 6)
                                                            (ld H2 (List.length H0) 2 fun v30 =>
                                                              asSl v30 fun b16 i16 n25 c16 =>
                                                                inB 0 n25 ∧
                                                                  ld H2 b16 i16 fun v31 =>
                                                                    asInt IntKind.i64 v31 fun n26 =>
                                                                      ld H2 (List.length H0) 2 fun v32 =>
                                                                        asSl v32 fun b17 i17 n27 c17 =>
                                                                          inB 0 n27 ∧
                                                                            ld H2 b17 i17 fun v33 =>
                                                                              asInt IntKind.i64 v33 fun n28 =>
                                                                                CallsA prog spec_l4Memo_ends [V.ptr m_b0 m_i0, V.int IntKind.i64 n28, V.int IntKind.i64 from0] H2 fun v34 H10 =>
                                                                                  asSl v34 fun b18 i18 n29 c18 =>
                                                                                    H10.cell b16 i16 = some (V.int IntKind.i64 n26) ∧
                                                                                      H10.cell (List.length H0) 2 = some (V.sl b16 i16 n25 c16) ∧
                                                                                        CallsA prog spec_l4Memo_again [V.ptr m_b0 m_i0, V.int IntKind.i64 n26, V.sl b18 i18 n29 c18] H10 fun v35 H11 =>
                                                                                          asSl v35 fun b19 i19 n30 c19 => R (V.sl b19 i19 n30 c19) H11)
                                                            (splitB (n6 == 7)
                                                              (ld H2 (List.length H0) 2 fun v36 =>
                                                                asSl v36 fun b20 i20 n31 c20 =>
                                                                  inB 0 n31 ∧
                                                                    ld H2 b20 i20 fun v37 =>
                                                                      asInt IntKind.i64 v37 fun n32 =>
                                                                        CallsA prog spec_l4Memo_ends [V.ptr m_b0 m_i0, V.int IntKind.i64 n32, V.int IntKind.i64 from0] H2 fun v38 H12 =>
                                                                          asSl v38 fun b21 i21 n33 c21 =>
                                                                            CallsA prog 57
                                                                              [V.sl (List.length (H1 ++ [Blk.cells (rep (IntKind.i64.wrap ((↑s0.length : Int) + 1)).toNat [V.bool false]) false])) 0
                                                                                  (IntKind.i64.wrap ((↑s1.length : Int) + 1)).toNat (Cap.ex (IntKind.i64.wrap ((↑s1.length : Int) + 1)).toNat),
                                                                                V.sl b21 i21 n33 c21]
                                                                              H12 fun v39 H13 => asSl v39 fun b22 i22 n34 c22 => R (V.sl b22 i22 n34 c22) H13)
                                                              (splitB (n6 == 8)
                                                                (LoopI (L_spec_l4Memo_find_4 D R)
                                                                  [(9,
                                                                      V.sl (List.length (H1 ++ [Blk.cells (rep (IntKind.i64.wrap ((↑s0.length : Int) + 1)).toNat [V.bool false]) false])) 0
                                                                        (IntKind.i64.wrap ((↑s1.length : Int) + 1)).toNat (Cap.ex (IntKind.i64.wrap ((↑s1.length : Int) + 1)).toNat)),
                                                                    (10, V.int IntKind.i64 0),
                                                                    (8,
                                                                      V.sl (List.length H1) 0 (IntKind.i64.wrap ((↑s0.length : Int) + 1)).toNat
                                                                        (Cap.ex (IntKind.i64.wrap ((↑s0.length : Int) + 1)).toNat)),
                                                                    (0, V.ptr m_b0 m_i0), (7, V.ptr (List.length H0) 0)]
                                                                  H2)
                                                                (J_spec_l4Memo_find_1 D R
                                                                  [(8,
                                                                      V.sl (List.length H1) 0 (IntKind.i64.wrap ((↑s0.length : Int) + 1)).toNat
                                                                        (Cap.ex (IntKind.i64.wrap ((↑s0.length : Int) + 1)).toNat))]
                                                                  H2))))))))) := (hD _ _ _ _ _ _).trans (by kernel_rfl)
theorem J_spec_l4Memo_find_2_eq (hD : IsD 182 [6] D) {x630 : Bool} {from0 : Int} {out_b0 out_i0 out_n0 : Nat} {out_c0 : Cap} {H0 : AH} : J_spec_l4Memo_find_2 D R [(63, V.bool x630), (2, V.int IntKind.i64 from0), (8, V.sl out_b0 out_i0 out_n0 out_c0)] H0 = (
  splitB x630
  (inB (IntKind.i64.wrap (from0 + 1)) out_n0 ∧
    stK H0 out_b0 (out_i0 + (IntKind.i64.wrap (from0 + 1)).toNat * 1) [V.bool true] fun H1 => J_spec_l4Memo_find_1 D R [(8, V.sl out_b0 out_i0 out_n0 out_c0)] H1)
  (J_spec_l4Memo_find_1 D R [(8, V.sl out_b0 out_i0 out_n0 out_c0)] H0)) := (hD _ _ _ _ _ _).trans (by kernel_rfl)
theorem L_spec_l4Memo_find_4_eq (hD : IsD 182 [6] D) {one_b0 one_i0 one_n0 : Nat} {one_c0 : Cap} {i0 : Int} {out_b0 out_i0 out_n0 : Nat} {out_c0 : Cap} {m_b0 m_i0 n_b0 n_i0 : Nat} {H0 : AH} : L_spec_l4Memo_find_4 D R [(9, V.sl one_b0 one_i0 one_n0 one_c0), (10, V.int IntKind.i64 i0), (8, V.sl out_b0 out_i0 out_n0 out_c0), (0, V.ptr m_b0 m_i0), (7, V.ptr n_b0 n_i0)] H0 K1 = (
  ld H0 n_b0 (n_i0 + 3) fun v0 =>
  asInt IntKind.i64 v0 fun n0 =>
    splitB (decide (i0 < n0))
      (J_spec_l4Memo_find_5 D R K1
        [(9, V.sl one_b0 one_i0 one_n0 one_c0), (10, V.int IntKind.i64 i0), (8, V.sl out_b0 out_i0 out_n0 out_c0), (0, V.ptr m_b0 m_i0), (7, V.ptr n_b0 n_i0)] H0)
      (J_spec_l4Memo_find_3 D R [(8, V.sl out_b0 out_i0 out_n0 out_c0), (0, V.ptr m_b0 m_i0), (7, V.ptr n_b0 n_i0), (9, V.sl one_b0 one_i0 one_n0 one_c0)] H0)) := (hD _ _ _ _ _ _).trans (by kernel_rfl)
theorem J_spec_l4Memo_find_1_eq (hD : IsD 182 [6] D) {out_b0 out_i0 out_n0 : Nat} {out_c0 : Cap} {H0 : AH} : J_spec_l4Memo_find_1 D R [(8, V.sl out_b0 out_i0 out_n0 out_c0)] H0 = (
  R (V.sl out_b0 out_i0 out_n0 out_c0) H0) := (hD _ _ _ _ _ _).trans (by kernel_rfl)
theorem J_spec_l4Memo_find_5_eq (hD : IsD 182 [6] D) {one_b0 one_i0 one_n0 : Nat} {one_c0 : Cap} {i0 : Int} {out_b0 out_i0 out_n0 : Nat} {out_c0 : Cap} {m_b0 m_i0 n_b0 n_i0 : Nat} {H0 : AH} : J_spec_l4Memo_find_5 D R K1 [(9, V.sl one_b0 one_i0 one_n0 one_c0), (10, V.int IntKind.i64 i0), (8, V.sl out_b0 out_i0 out_n0 out_c0), (0, V.ptr m_b0 m_i0), (7, V.ptr n_b0 n_i0)] H0 = (
  ld H0 n_b0 (n_i0 + 2) fun v0 =>
  asSl v0 fun b0 i1 n0 c0 =>
    inB 0 n0 ∧
      ld H0 b0 i1 fun v1 =>
        asInt IntKind.i64 v1 fun n1 =>
          CallsA prog spec_l4Memo_step [V.ptr m_b0 m_i0, V.int IntKind.i64 n1, V.sl one_b0 one_i0 one_n0 one_c0] H0 fun v2 H1 =>
            asSl v2 fun b1 i2 n2 c1 =>
              J_spec_l4Memo_find_6 D R K1 [(10, V.int IntKind.i64 i0), (9, V.sl b1 i2 n2 c1), (8, V.sl out_b0 out_i0 out_n0 out_c0), (0, V.ptr m_b0 m_i0), (7, V.ptr n_b0 n_i0)] H1) := (hD _ _ _ _ _ _).trans (by kernel_rfl)
theorem J_spec_l4Memo_find_3_eq (hD : IsD 182 [6] D) {out_b0 out_i0 out_n0 : Nat} {out_c0 : Cap} {m_b0 m_i0 n_b0 n_i0 one_b0 one_i0 one_n0 : Nat} {one_c0 : Cap} {H0 : AH} : J_spec_l4Memo_find_3 D R [(8, V.sl out_b0 out_i0 out_n0 out_c0), (0, V.ptr m_b0 m_i0), (7, V.ptr n_b0 n_i0), (9, V.sl one_b0 one_i0 one_n0 one_c0)] H0 = (
  ld H0 n_b0 (n_i0 + 4) fun v0 =>
  asInt IntKind.i64 v0 fun n0 =>
    splitB (decide (n0 < 0))
      (ld H0 n_b0 (n_i0 + 2) fun v1 =>
        asSl v1 fun b0 i0 n1 c0 =>
          inB 0 n1 ∧
            ld H0 b0 i0 fun v2 =>
              asInt IntKind.i64 v2 fun n2 =>
                CallsA prog spec_l4Memo_again [V.ptr m_b0 m_i0, V.int IntKind.i64 n2, V.sl one_b0 one_i0 one_n0 one_c0] H0 fun v3 H1 => asSl v3 fun b1 i1 n3 c1 => R (V.sl b1 i1 n3 c1) H1)
      (J_spec_l4Memo_find_7 D R [(8, V.sl out_b0 out_i0 out_n0 out_c0), (9, V.sl one_b0 one_i0 one_n0 one_c0), (0, V.ptr m_b0 m_i0), (7, V.ptr n_b0 n_i0)] H0)) := (hD _ _ _ _ _ _).trans (by kernel_rfl)
theorem J_spec_l4Memo_find_6_eq (hD : IsD 182 [6] D) {i0 : Int} {one_b0 one_i0 one_n0 : Nat} {one_c0 : Cap} {out_b0 out_i0 out_n0 : Nat} {out_c0 : Cap} {m_b0 m_i0 n_b0 n_i0 : Nat} {H0 : AH} : J_spec_l4Memo_find_6 D R K1 [(10, V.int IntKind.i64 i0), (9, V.sl one_b0 one_i0 one_n0 one_c0), (8, V.sl out_b0 out_i0 out_n0 out_c0), (0, V.ptr m_b0 m_i0), (7, V.ptr n_b0 n_i0)] H0 = (
  K1 [(9, V.sl one_b0 one_i0 one_n0 one_c0), (10, V.int IntKind.i64 (IntKind.i64.wrap (i0 + 1))), (8, V.sl out_b0 out_i0 out_n0 out_c0), (0, V.ptr m_b0 m_i0), (7, V.ptr n_b0 n_i0)] H0) := (hD _ _ _ _ _ _).trans (by kernel_rfl)
theorem J_spec_l4Memo_find_7_eq (hD : IsD 182 [6] D) {out_b0 out_i0 out_n0 : Nat} {out_c0 : Cap} {one_b0 one_i0 one_n0 : Nat} {one_c0 : Cap} {m_b0 m_i0 n_b0 n_i0 : Nat} {H0 : AH} : J_spec_l4Memo_find_7 D R [(8, V.sl out_b0 out_i0 out_n0 out_c0), (9, V.sl one_b0 one_i0 one_n0 one_c0), (0, V.ptr m_b0 m_i0), (7, V.ptr n_b0 n_i0)] H0 = (
  CallsA prog spec_l4Or [V.sl out_b0 out_i0 out_n0 out_c0, V.sl one_b0 one_i0 one_n0 one_c0] H0 fun v0 H1 =>
  asSl v0 fun b0 i0 n0 c0 =>
    ld H1 n_b0 (n_i0 + 3) fun v1 =>
      asInt IntKind.i64 v1 fun n1 =>
        LoopI (L_spec_l4Memo_find_8 D R) [(9, V.sl one_b0 one_i0 one_n0 one_c0), (8, V.sl b0 i0 n0 c0), (11, V.int IntKind.i64 n1), (0, V.ptr m_b0 m_i0), (7, V.ptr n_b0 n_i0)] H1) := (hD _ _ _ _ _ _).trans (by kernel_rfl)
theorem L_spec_l4Memo_find_8_eq (hD : IsD 182 [6] D) {one_b0 one_i0 one_n0 : Nat} {one_c0 : Cap} {out_b0 out_i0 out_n0 : Nat} {out_c0 : Cap} {i0 : Int} {m_b0 m_i0 n_b0 n_i0 : Nat} {H0 : AH} : L_spec_l4Memo_find_8 D R [(9, V.sl one_b0 one_i0 one_n0 one_c0), (8, V.sl out_b0 out_i0 out_n0 out_c0), (11, V.int IntKind.i64 i0), (0, V.ptr m_b0 m_i0), (7, V.ptr n_b0 n_i0)] H0 K1 = (
  ld H0 n_b0 (n_i0 + 4) fun v0 =>
  asInt IntKind.i64 v0 fun n0 =>
    splitB (decide (i0 < n0))
      (J_spec_l4Memo_find_9 D R K1
        [(9, V.sl one_b0 one_i0 one_n0 one_c0), (8, V.sl out_b0 out_i0 out_n0 out_c0), (11, V.int IntKind.i64 i0), (0, V.ptr m_b0 m_i0), (7, V.ptr n_b0 n_i0)] H0)
      (J_spec_l4Memo_find_1 D R [(8, V.sl out_b0 out_i0 out_n0 out_c0)] H0)) := (hD _ _ _ _ _ _).trans (by kernel_rfl)
theorem J_spec_l4Memo_find_9_eq (hD : IsD 182 [6] D) {one_b0 one_i0 one_n0 : Nat} {one_c0 : Cap} {out_b0 out_i0 out_n0 : Nat} {out_c0 : Cap} {i0 : Int} {m_b0 m_i0 n_b0 n_i0 : Nat} {H0 : AH} : J_spec_l4Memo_find_9 D R K1 [(9, V.sl one_b0 one_i0 one_n0 one_c0), (8, V.sl out_b0 out_i0 out_n0 out_c0), (11, V.int IntKind.i64 i0), (0, V.ptr m_b0 m_i0), (7, V.ptr n_b0 n_i0)] H0 = (
  ld H0 n_b0 (n_i0 + 2) fun v0 =>
  asSl v0 fun b0 i1 n0 c0 =>
    inB 0 n0 ∧
      ld H0 b0 i1 fun v1 =>
        asInt IntKind.i64 v1 fun n1 =>
          CallsA prog spec_l4Memo_step [V.ptr m_b0 m_i0, V.int IntKind.i64 n1, V.sl one_b0 one_i0 one_n0 one_c0] H0 fun v2 H1 =>
            asSl v2 fun b1 i2 n2 c1 =>
              CallsA prog spec_l4Or [V.sl out_b0 out_i0 out_n0 out_c0, V.sl b1 i2 n2 c1] H1 fun v3 H2 =>
                asSl v3 fun b2 i3 n3 c2 =>
                  J_spec_l4Memo_find_10 D R K1 [(11, V.int IntKind.i64 i0), (9, V.sl b1 i2 n2 c1), (8, V.sl b2 i3 n3 c2), (0, V.ptr m_b0 m_i0), (7, V.ptr n_b0 n_i0)] H2) := (hD _ _ _ _ _ _).trans (by kernel_rfl)
theorem J_spec_l4Memo_find_10_eq (hD : IsD 182 [6] D) {i0 : Int} {one_b0 one_i0 one_n0 : Nat} {one_c0 : Cap} {out_b0 out_i0 out_n0 : Nat} {out_c0 : Cap} {m_b0 m_i0 n_b0 n_i0 : Nat} {H0 : AH} : J_spec_l4Memo_find_10 D R K1 [(11, V.int IntKind.i64 i0), (9, V.sl one_b0 one_i0 one_n0 one_c0), (8, V.sl out_b0 out_i0 out_n0 out_c0), (0, V.ptr m_b0 m_i0), (7, V.ptr n_b0 n_i0)] H0 = (
  K1 [(9, V.sl one_b0 one_i0 one_n0 one_c0), (8, V.sl out_b0 out_i0 out_n0 out_c0), (11, V.int IntKind.i64 (IntKind.i64.wrap (i0 + 1))), (0, V.ptr m_b0 m_i0), (7, V.ptr n_b0 n_i0)] H0) := (hD _ _ _ _ _ _).trans (by kernel_rfl)

/-! ### impl_RxOk -/
noncomputable def impl_RxOk_b : Code := (Go.Proofs.Tryd.f22.body).getD .skip
noncomputable abbrev impl_RxOk_p (R : V → AH → Prop) : APost := postK prog (Go.Proofs.Tryd.f22.results.toList) R
def J_impl_RxOk_1 (D : Den) (R : V → AH → Prop) (env : Env) (H : AH) : Prop := D (cAt [1, 1] impl_RxOk_b) [] [] env H (impl_RxOk_p R)
def J_impl_RxOk_2 (D : Den) (R : V → AH → Prop) (env : Env) (H : AH) : Prop := D (cAt [1, 1, 1, 1, 1] impl_RxOk_b) [] [] env H (impl_RxOk_p R)
def L_impl_RxOk_3 (D : Den) (R : V → AH → Prop) (env : Env) (H : AH) (K1 : Env → AH → Prop) : Prop := D (cAt [1, 1, 1, 1, 0, 1, 0, 0] impl_RxOk_b) [(0, [4, 3])] [6, 5, 4, 1, 3] env H (seqQ (fun e H => K1 (keepE e [6, 5, 4, 1, 3]) H) (blockQ 0 (seqQ (fun e H => J_impl_RxOk_2 D R (keepE e [4, 3]) H) (impl_RxOk_p R))))
def J_impl_RxOk_4 (D : Den) (R : V → AH → Prop) (K1 : Env → AH → Prop) (env : Env) (H : AH) : Prop := D (cAt [1, 1, 1, 1, 0, 1, 0, 0, 1] impl_RxOk_b) [(0, [4, 3])] [6, 5, 4, 1, 3] env H (seqQ (fun e H => K1 (keepE e [6, 5, 4, 1, 3]) H) (blockQ 0 (seqQ (fun e H => J_impl_RxOk_2 D R (keepE e [4, 3]) H) (impl_RxOk_p R))))
def J_impl_RxOk_5 (D : Den) (R : V → AH → Prop) (K1 : Env → AH → Prop) (env : Env) (H : AH) : Prop := D (cAt [1, 1, 1, 1, 0, 1, 0, 0, 1, 1] impl_RxOk_b) [(0, [4, 3])] [6, 5, 4, 1, 3] env H (seqQ (fun e H => K1 (keepE e [6, 5, 4, 1, 3]) H) (blockQ 0 (seqQ (fun e H => J_impl_RxOk_2 D R (keepE e [4, 3]) H) (impl_RxOk_p R))))
def J_impl_RxOk_6 (D : Den) (R : V → AH → Prop) (K1 : Env → AH → Prop) (env : Env) (H : AH) : Prop := D (cAt [1, 1, 1, 1, 0, 1, 0, 0, 1, 0, 0, 1, 1] impl_RxOk_b) [(1, [6, 5, 4, 1, 3]), (0, [4, 3])] [6, 5, 4, 1, 3] env H (blockQ 1 (seqQ (fun e H => J_impl_RxOk_5 D R K1 (keepE e [6, 5, 4, 1, 3]) H) (seqQ (fun e H => K1 (keepE e [6, 5, 4, 1, 3]) H) (blockQ 0 (seqQ (fun e H => J_impl_RxOk_2 D R (keepE e [4, 3]) H) (impl_RxOk_p R))))))
def J_impl_RxOk_7 (D : Den) (R : V → AH → Prop) (K1 : Env → AH → Prop) (env : Env) (H : AH) : Prop := D (cAt [1, 1, 1, 1, 0, 1, 0, 0, 1, 0, 0, 1, 0, 1] impl_RxOk_b) [(1, [6, 5, 4, 1, 3]), (0, [4, 3])] [7, 3, 1, 4, 5, 6] env H (seqQ (fun e H => J_impl_RxOk_6 D R K1 (keepE e [7, 3, 1, 4, 5, 6]) H) (blockQ 1 (seqQ (fun e H => J_impl_RxOk_5 D R K1 (keepE e [6, 5, 4, 1, 3]) H) (seqQ (fun e H => K1 (keepE e [6, 5, 4, 1, 3]) H) (blockQ 0 (seqQ (fun e H => J_impl_RxOk_2 D R (keepE e [4, 3]) H) (impl_RxOk_p R)))))))
def L_impl_RxOk_8 (D : Den) (R : V → AH → Prop) (K1 : Env → AH → Prop) (env : Env) (H : AH) (K2 : Env → AH → Prop) : Prop := D (cAt [1, 1, 1, 1, 0, 1, 0, 0, 1, 0, 0, 1, 1, 1, 0, 0] impl_RxOk_b) [(2, [6, 5, 4, 1, 3]), (1, [6, 5, 4, 1, 3]), (0, [4, 3])] [63, 62, 3, 1, 61, 4, 5, 6] env H (seqQ (fun e H => K2 (keepE e [63, 62, 3, 1, 61, 4, 5, 6]) H) (blockQ 2 (blockQ 1 (seqQ (fun e H => J_impl_RxOk_5 D R K1 (keepE e [6, 5, 4, 1, 3]) H) (seqQ (fun e H => K1 (keepE e [6, 5, 4, 1, 3]) H) (blockQ 0 (seqQ (fun e H => J_impl_RxOk_2 D R (keepE e [4, 3]) H) (impl_RxOk_p R))))))))
def J_impl_RxOk_9 (D : Den) (R : V → AH → Prop) (K1 : Env → AH → Prop) (K2 : Env → AH → Prop) (env : Env) (H : AH) : Prop := D (cAt [1, 1, 1, 1, 0, 1, 0, 0, 1, 0, 0, 1, 1, 1, 0, 0, 1, 1] impl_RxOk_b) [(2, [6, 5, 4, 1, 3]), (1, [6, 5, 4, 1, 3]), (0, [4, 3])] [63, 62, 3, 1, 61, 4, 5, 6] env H (seqQ (fun e H => K2 (keepE e [63, 62, 3, 1, 61, 4, 5, 6]) H) (blockQ 2 (blockQ 1 (seqQ (fun e H => J_impl_RxOk_5 D R K1 (keepE e [6, 5, 4, 1, 3]) H) (seqQ (fun e H => K1 (keepE e [6, 5, 4, 1, 3]) H) (blockQ 0 (seqQ (fun e H => J_impl_RxOk_2 D R (keepE e [4, 3]) H) (impl_RxOk_p R))))))))
def J_impl_RxOk_10 (D : Den) (R : V → AH → Prop) (K1 : Env → AH → Prop) (K2 : Env → AH → Prop) (env : Env) (H : AH) : Prop := D (cAt [1, 1, 1, 1, 0, 1, 0, 0, 1, 0, 0, 1, 1, 1, 0, 0, 1, 1, 1] impl_RxOk_b) [(2, [6, 5, 4, 1, 3]), (1, [6, 5, 4, 1, 3]), (0, [4, 3])] [63, 62, 3, 1, 61, 4, 5, 6] env H (seqQ (fun e H => K2 (keepE e [63, 62, 3, 1, 61, 4, 5, 6]) H) (blockQ 2 (blockQ 1 (seqQ (fun e H => J_impl_RxOk_5 D R K1 (keepE e [6, 5, 4, 1, 3]) H) (seqQ (fun e H => K1 (keepE e [6, 5, 4, 1, 3]) H) (blockQ 0 (seqQ (fun e H => J_impl_RxOk_2 D R (keepE e [4, 3]) H) (impl_RxOk_p R))))))))
theorem impl_RxOk_in {args : List V} {H : AH} {R : V → AH → Prop} (h : ∀ D, IsD 87 [2] D → D impl_RxOk_b [] [] (argEnv 0 args) H (impl_RxOk_p R)) (hn : args.length ≤ 87 := by exact of_decide_eq_true rfl) : CallsA prog impl_RxOk args H R := callsD_of Go.Proofs.Tryd.func22 (by kernel_rfl) (by kernel_rfl) (by kernel_rfl) (enters_of Go.Proofs.Tryd.func22 (by kernel_rfl) rfl) hn h
theorem impl_RxOk_eq (hD : IsD 87 [2] D) {x_b0 x_i0 x_n0 : Nat} {x_c0 : Cap} {H0 : AH} : D impl_RxOk_b [] [] (argEnv 0 [V.agg [V.sl x_b0 x_i0 x_n0 x_c0]]) H0 (impl_RxOk_p R) = (
  ld (H0 ++ [Blk.cells [V.sl x_b0 x_i0 x_n0 x_c0] false]) (List.length H0) 0 fun v0 =>
  asSl v0 fun b0 i0 n0 c0 =>
    CallsA prog impl_size_impl_RNode [V.sl b0 i0 n0 c0] (H0 ++ [Blk.cells [V.sl x_b0 x_i0 x_n0 x_c0] false]) fun v1 H1 =>
      asInt IntKind.i64 v1 fun n1 =>
        CallsA prog impl_within [V.int IntKind.i64 n1, V.int IntKind.i64 1, V.int IntKind.i64 300] H1 fun v2 H2 =>
          asBool v2 fun t0 => splitB (!t0) (R (V.bool false) H2) (J_impl_RxOk_1 D R [(1, V.ptr (List.length H0) 0)] H2)) := (hD _ _ _ _ _ _).trans (by kernel_rfl)
theorem J_impl_RxOk_1_eq (hD : IsD 87 [2] D) {x_b0 x_i0 : Nat} {H0 : AH} : J_impl_RxOk_1 D R [(1, V.ptr x_b0 x_i0)] H0 = (
  ld H0 x_b0 x_i0 fun v0 =>
  asSl v0 fun b0 i0 n0 c0 =>
    ld H0 x_b0 x_i0 fun v1 =>
      asSl v1 fun b1 i1 n1 c1 =>
        mkOk (↑n1 : Int) (↑n1 : Int) 8 ∧
          ld (H0 ++ [Blk.cells (rep (↑n1 : Int).toNat [V.int IntKind.i64 0]) false]) x_b0 x_i0 fun v2 =>
            asSl v2 fun b2 i2 n2 c2 =>
              mkOk (↑n2 : Int) (↑n2 : Int) 8 ∧
                LoopI (L_impl_RxOk_3 D R)
                  [(6, V.int IntKind.i64 (IntKind.i64.wrap ((↑n0 : Int) - 1))),
                    (5, V.sl (List.length (H0 ++ [Blk.cells (rep (↑n1 : Int).toNat [V.int IntKind.i64 0]) false])) 0 (↑n2 : Int).toNat (Cap.ex (↑n2 : Int).toNat)),
                    (4, V.sl (List.length H0) 0 (↑n1 : Int).toNat (Cap.ex (↑n1 : Int).toNat)), (1, V.ptr x_b0 x_i0), (3, V.int IntKind.i64 (IntKind.i64.wrap ((↑n0 : Int) - 1)))]
                  (H0 ++ [Blk.cells (rep (↑n1 : Int).toNat [V.int IntKind.i64 0]) false] ++ [Blk.cells (rep (↑n2 : Int).toNat [V.int IntKind.i64 0]) false])) := (hD _ _ _ _ _ _).trans (by kernel_rfl)
theorem L_impl_RxOk_3_eq (hD : IsD 87 [2] D) {place0 : Int} {within_b0 within_i0 within_n0 : Nat} {within_c0 : Cap} {kids_b0 kids_i0 kids_n0 : Nat} {kids_c0 : Cap} {x_b0 x_i0 : Nat} {last0 : Int} {H0 : AH} : L_impl_RxOk_3 D R [(6, V.int IntKind.i64 place0), (5, V.sl within_b0 within_i0 within_n0 within_c0), (4, V.sl kids_b0 kids_i0 kids_n0 kids_c0), (1, V.ptr x_b0 x_i0), (3, V.int IntKind.i64 last0)] H0 K1 = (
  splitB (decide (place0 ≥ 0))
  (J_impl_RxOk_4 D R K1
    [(6, V.int IntKind.i64 place0), (5, V.sl within_b0 within_i0 within_n0 within_c0), (4, V.sl kids_b0 kids_i0 kids_n0 kids_c0), (1, V.ptr x_b0 x_i0), (3, V.int IntKind.i64 last0)] H0)
  (J_impl_RxOk_2 D R [(4, V.sl kids_b0 kids_i0 kids_n0 kids_c0), (3, V.int IntKind.i64 last0)] H0)) := (hD _ _ _ _ _ _).trans (by kernel_rfl)
theorem J_impl_RxOk_4_eq (hD : IsD 87 [2] D) {place0 : Int} {within_b0 within_i0 within_n0 : Nat} {within_c0 : Cap} {kids_b0 kids_i0 kids_n0 : Nat} {kids_c0 : Cap} {x_b0 x_i0 : Nat} {last0 : Int} {H0 : AH} : J_impl_RxOk_4 D R K1 [(6, V.int IntKind.i64 place0), (5, V.sl within_b0 within_i0 within_n0 within_c0), (4, V.sl kids_b0 kids_i0 kids_n0 kids_c0), (1, V.ptr x_b0 x_i0), (3, V.int IntKind.i64 last0)] H0 = (
  ld H0 x_b0 x_i0 fun v0 =>
  asSl v0 fun b0 i0 n0 c0 =>
    inB place0 n0 ∧
      ld H0 b0 (i0 + place0.toNat * 5 + 0) fun v1 =>
        asInt IntKind.i64 v1 fun n1 =>
          ld H0 b0 (i0 + place0.toNat * 5 + 1) fun v2 =>
            asSl v2 fun b1 i1 n2 c1 =>
              ld H0 b0 (i0 + place0.toNat * 5 + 2) fun v3 =>
                asSl v3 fun b2 i2 n3 c2 =>
                  ld H0 b0 (i0 + place0.toNat * 5 + 3) fun v4 =>
                    asInt IntKind.i64 v4 fun n4 =>
                      ld H0 b0 (i0 + place0.toNat * 5 + 4) fun v5 =>
                        asInt IntKind.i64 v5 fun n5 =>
                          stK (H0 ++ [Blk.cells [V.int IntKind.i64 0, V.sl 0 0 0 Cap.nil, V.sl 0 0 0 Cap.nil, V.int IntKind.i64 0, V.int IntKind.i64 0] false]) (List.length H0) 0
                            [V.int IntKind.i64 n1, V.sl b1 i1 n2 c1, V.sl b2 i2 n3 c2, V.int IntKind.i64 n4, V.int IntKind.i64 n5] fun H1 =>
                            ld H1 (List.length H0) 0 fun v6 =>
                              asInt IntKind.i64 v6 fun n6 =>
                                ld H1 (List.length H0) 1 fun v7 =>
                                  asSl v7 fun b3 i3 n7 c3 =>
                                    ld H1 (List.length H0) 2 fun v8 =>
                                      asSl v8 fun b4 i4 n8 c4 =>
                                        ld H1 (List.length H0) 3 fun v9 =>
                                          asInt IntKind.i64 v9 fun n9 =>
                                            ld H1 (List.length H0) 4 fun v10 =>
                                              asInt IntKind.i64 v10 fun n10 =>
                                                CallsA prog impl_nodeOk [V.agg [V.int IntKind.i64 n6, V.sl b3 i3 n7 c3, V.sl b4 i4 n8 c4, V.int IntKind.i64 n9, V.int IntKind.i64 n10], V.int IntKind.i64 place0]
                                                  H1 fun v11 H2 =>
                                                  asBool v11 fun t0 =>
                                                    splitB (!t0)
                                                      (J_impl_RxOk_7 D R K1
                                                        [(59, V.bool true), (6, V.int IntKind.i64 place0), (5, V.sl within_b0 within_i0 within_n0 within_c0), (4, V.sl kids_b0 kids_i0 kids_n0 kids_c0),
                                                          (1, V.ptr x_b0 x_i0), (3, V.int IntKind.i64 last0), (7, V.ptr (List.length H0) 0)]
                                                        H2)
                                                      (splitB (decide (place0 < last0))
                                                        (inB place0 kids_n0 ∧
                                                          ld H2 kids_b0 (kids_i0 + place0.toNat * 1) fun v12 =>
                                                            asInt IntKind.i64 v12 fun n11 =>
                                                              splitB (n11 != 1)
                                                                (J_impl_RxOk_7 D R K1
                                                                  [(59, V.bool true), (6, V.int IntKind.i64 place0), (5, V.sl within_b0 within_i0 within_n0 within_c0),
                                                                    (4, V.sl kids_b0 kids_i0 kids_n0 kids_c0), (1, V.ptr x_b0 x_i0), (3, V.int IntKind.i64 last0), (7, V.ptr (List.length H0) 0)]
                                                                  H2)
                                                                (inB place0 within_n0 ∧
                                                                  ld H2 within_b0 (within_i0 + place0.toNat * 1) fun v13 =>
                                                                    asInt IntKind.i64 v13 fun n12 =>
                                                                      J_impl_RxOk_7 D R K1
                                                                        [(59, V.bool (decide (n12 > 150))), (6, V.int IntKind.i64 place0), (5, V.sl within_b0 within_i0 within_n0 within_c0),
                                                                          (4, V.sl kids_b0 kids_i0 kids_n0 kids_c0), (1, V.ptr x_b0 x_i0), (3, V.int IntKind.i64 last0), (7, V.ptr (List.length H0) 0)]
                                                                        H2))
                                                        (inB place0 within_n0 ∧
                                                          ld H2 within_b0 (within_i0 + place0.toNat * 1) fun v14 =>
                                                            asInt IntKind.i64 v14 fun n13 =>
                                                              J_impl_RxOk_7 D R K1
                                                                [(59, V.bool (decide (n13 > 150))), (6, V.int IntKind.i64 place0), (5, V.sl within_b0 within_i0 within_n0 within_c0),
                                                                  (4, V.sl kids_b0 kids_i0 kids_n0 kids_c0), (1, V.ptr x_b0 x_i0), (3, V.int IntKind.i64 last0), (7, V.ptr (List.length H0) 0)]
                                                                H2))) := (hD _ _ _ _ _ _).trans (by kernel_rfl)
theorem J_impl_RxOk_2_eq (hD : IsD 87 [2] D) {kids_b0 kids_i0 kids_n0 : Nat} {kids_c0 : Cap} {last0 : Int} {H0 : AH} : J_impl_RxOk_2 D R [(4, V.sl kids_b0 kids_i0 kids_n0 kids_c0), (3, V.int IntKind.i64 last0)] H0 = (
  inB last0 kids_n0 ∧ ld H0 kids_b0 (kids_i0 + last0.toNat * 1) fun v0 => asInt IntKind.i64 v0 fun n0 => R (V.bool (n0 == 0)) H0) := (hD _ _ _ _ _ _).trans (by kernel_rfl)
theorem J_impl_RxOk_7_eq (hD : IsD 87 [2] D) {x590 : Bool} {place0 : Int} {within_b0 within_i0 within_n0 : Nat} {within_c0 : Cap} {kids_b0 kids_i0 kids_n0 : Nat} {kids_c0 : Cap} {x_b0 x_i0 : Nat} {last0 : Int} {n_b0 n_i0 : Nat} {H0 : AH} : J_impl_RxOk_7 D R K1 [(59, V.bool x590), (6, V.int IntKind.i64 place0), (5, V.sl within_b0 within_i0 within_n0 within_c0), (4, V.sl kids_b0 kids_i0 kids_n0 kids_c0), (1, V.ptr x_b0 x_i0), (3, V.int IntKind.i64 last0),
  (7, V.ptr n_b0 n_i0)] H0 = (
  splitB x590 (R (V.bool false) H0)
  (J_impl_RxOk_6 D R K1
    [(7, V.ptr n_b0 n_i0), (3, V.int IntKind.i64 last0), (1, V.ptr x_b0 x_i0), (4, V.sl kids_b0 kids_i0 kids_n0 kids_c0), (5, V.sl within_b0 within_i0 within_n0 within_c0),
      (6, V.int IntKind.i64 place0)]
    H0)) := (hD _ _ _ _ _ _).trans (by kernel_rfl)
theorem J_impl_RxOk_6_eq (hD : IsD 87 [2] D) {n_b0 n_i0 : Nat} {last0 : Int} {x_b0 x_i0 kids_b0 kids_i0 kids_n0 : Nat} {kids_c0 : Cap} {within_b0 within_i0 within_n0 : Nat} {within_c0 : Cap} {place0 : Int} {H0 : AH} : J_impl_RxOk_6 D R K1 [(7, V.ptr n_b0 n_i0), (3, V.int IntKind.i64 last0), (1, V.ptr x_b0 x_i0), (4, V.sl kids_b0 kids_i0 kids_n0 kids_c0), (5, V.sl within_b0 within_i0 within_n0 within_c0), (6, V.int IntKind.i64 place0)] H0 = (
  ld H0 n_b0 (n_i0 + 2) fun v0 =>
  asSl v0 fun b0 i0 n0 c0 =>
    LoopI (L_impl_RxOk_8 D R K1)
      [(63, V.int IntKind.i64 0), (62, V.int IntKind.i64 (↑n0 : Int)), (3, V.int IntKind.i64 last0), (1, V.ptr x_b0 x_i0), (61, V.sl b0 i0 n0 c0), (4, V.sl kids_b0 kids_i0 kids_n0 kids_c0),
        (5, V.sl within_b0 within_i0 within_n0 within_c0), (6, V.int IntKind.i64 place0)]
      H0) := (hD _ _ _ _ _ _).trans (by kernel_rfl)
theorem L_impl_RxOk_8_eq (hD : IsD 87 [2] D) {x630 x620 last0 : Int} {x_b0 x_i0 x61_b0 x61_i0 x61_n0 : Nat} {x61_c0 : Cap} {kids_b0 kids_i0 kids_n0 : Nat} {kids_c0 : Cap} {within_b0 within_i0 within_n0 : Nat} {within_c0 : Cap} {place0 : Int} {H0 : AH} : L_impl_RxOk_8 D R K1 [(63, V.int IntKind.i64 x630), (62, V.int IntKind.i64 x620), (3, V.int IntKind.i64 last0), (1, V.ptr x_b0 x_i0), (61, V.sl x61_b0 x61_i0 x61_n0 x61_c0), (4, V.sl kids_b0 kids_i0 kids_n0 kids_c0),
  (5, V.sl within_b0 within_i0 within_n0 within_c0), (6, V.int IntKind.i64 place0)] H0 K2 = (
  splitB (decide (x630 < x620))
  (J_impl_RxOk_9 D R K1 K2
    [(63, V.int IntKind.i64 x630), (62, V.int IntKind.i64 x620), (3, V.int IntKind.i64 last0), (1, V.ptr x_b0 x_i0), (61, V.sl x61_b0 x61_i0 x61_n0 x61_c0), (4, V.sl kids_b0 kids_i0 kids_n0 kids_c0),
      (5, V.sl within_b0 within_i0 within_n0 within_c0), (6, V.int IntKind.i64 place0)]
    H0)
  (J_impl_RxOk_5 D R K1
    [(6, V.int IntKind.i64 place0), (5, V.sl within_b0 within_i0 within_n0 within_c0), (4, V.sl kids_b0 kids_i0 kids_n0 kids_c0), (1, V.ptr x_b0 x_i0), (3, V.int IntKind.i64 last0)] H0)) := (hD _ _ _ _ _ _).trans (by kernel_rfl)
theorem J_impl_RxOk_9_eq (hD : IsD 87 [2] D) {x630 x620 last0 : Int} {x_b0 x_i0 x61_b0 x61_i0 x61_n0 : Nat} {x61_c0 : Cap} {kids_b0 kids_i0 kids_n0 : Nat} {kids_c0 : Cap} {within_b0 within_i0 within_n0 : Nat} {within_c0 : Cap} {place0 : Int} {H0 : AH} : J_impl_RxOk_9 D R K1 K2 [(63, V.int IntKind.i64 x630), (62, V.int IntKind.i64 x620), (3, V.int IntKind.i64 last0), (1, V.ptr x_b0 x_i0), (61, V.sl x61_b0 x61_i0 x61_n0 x61_c0), (4, V.sl kids_b0 kids_i0 kids_n0 kids_c0),
  (5, V.sl within_b0 within_i0 within_n0 within_c0), (6, V.int IntKind.i64 place0)] H0 = (
  inB x630 x61_n0 ∧
  ld H0 x61_b0 (x61_i0 + x630.toNat * 1) fun v0 =>
    asInt IntKind.i64 v0 fun n0 =>
      inB n0 kids_n0 ∧
        ld H0 kids_b0 (kids_i0 + n0.toNat * 1) fun v1 =>
          asInt IntKind.i64 v1 fun n1 =>
            inB n0 kids_n0 ∧
              stK H0 kids_b0 (kids_i0 + n0.toNat * 1) [V.int IntKind.i64 (IntKind.i64.wrap (n1 + 1))] fun H1 =>
                inB place0 within_n0 ∧
                  ld H1 within_b0 (within_i0 + place0.toNat * 1) fun v2 =>
                    asInt IntKind.i64 v2 fun n2 =>
                      inB n0 within_n0 ∧
                        stK H1 within_b0 (within_i0 + n0.toNat * 1) [V.int IntKind.i64 (IntKind.i64.wrap (n2 + 1))] fun H2 =>
                          J_impl_RxOk_10 D R K1 K2
                            [(63, V.int IntKind.i64 x630), (62, V.int IntKind.i64 x620), (3, V.int IntKind.i64 last0), (1, V.ptr x_b0 x_i0), (61, V.sl x61_b0 x61_i0 x61_n0 x61_c0),
                              (4, V.sl kids_b0 kids_i0 kids_n0 kids_c0), (5, V.sl within_b0 within_i0 within_n0 within_c0), (6, V.int IntKind.i64 place0)]
                            H2) := (hD _ _ _ _ _ _).trans (by kernel_rfl)
theorem J_impl_RxOk_5_eq (hD : IsD 87 [2] D) {place0 : Int} {within_b0 within_i0 within_n0 : Nat} {within_c0 : Cap} {kids_b0 kids_i0 kids_n0 : Nat} {kids_c0 : Cap} {x_b0 x_i0 : Nat} {last0 : Int} {H0 : AH} : J_impl_RxOk_5 D R K1 [(6, V.int IntKind.i64 place0), (5, V.sl within_b0 within_i0 within_n0 within_c0), (4, V.sl kids_b0 kids_i0 kids_n0 kids_c0), (1, V.ptr x_b0 x_i0), (3, V.int IntKind.i64 last0)] H0 = (
  K1
  [(6, V.int IntKind.i64 (IntKind.i64.wrap (place0 - 1))), (5, V.sl within_b0 within_i0 within_n0 within_c0), (4, V.sl kids_b0 kids_i0 kids_n0 kids_c0), (1, V.ptr x_b0 x_i0),
    (3, V.int IntKind.i64 last0)]
  H0) := (hD _ _ _ _ _ _).trans (by kernel_rfl)
theorem J_impl_RxOk_10_eq (hD : IsD 87 [2] D) {x630 x620 last0 : Int} {x_b0 x_i0 x61_b0 x61_i0 x61_n0 : Nat} {x61_c0 : Cap} {kids_b0 kids_i0 kids_n0 : Nat} {kids_c0 : Cap} {within_b0 within_i0 within_n0 : Nat} {within_c0 : Cap} {place0 : Int} {H0 : AH} : J_impl_RxOk_10 D R K1 K2 [(63, V.int IntKind.i64 x630), (62, V.int IntKind.i64 x620), (3, V.int IntKind.i64 last0), (1, V.ptr x_b0 x_i0), (61, V.sl x61_b0 x61_i0 x61_n0 x61_c0), (4, V.sl kids_b0 kids_i0 kids_n0 kids_c0),
  (5, V.sl within_b0 within_i0 within_n0 within_c0), (6, V.int IntKind.i64 place0)] H0 = (
  K2
  [(63, V.int IntKind.i64 (IntKind.i64.wrap (x630 + 1))), (62, V.int IntKind.i64 x620), (3, V.int IntKind.i64 last0), (1, V.ptr x_b0 x_i0), (61, V.sl x61_b0 x61_i0 x61_n0 x61_c0),
    (4, V.sl kids_b0 kids_i0 kids_n0 kids_c0), (5, V.sl within_b0 within_i0 within_n0 within_c0), (6, V.int IntKind.i64 place0)]
  H0) := (hD _ _ _ _ _ _).trans (by kernel_rfl)

/-! ### spec_l1Rd_oddRx -/
noncomputable def spec_l1Rd_oddRx_b : Code := (Go.Proofs.Tryd.f37.body).getD .skip
noncomputable abbrev spec_l1Rd_oddRx_p (R : V → AH → Prop) : APost := postK prog (Go.Proofs.Tryd.f37.results.toList) R
def J_spec_l1Rd_oddRx_1 (D : Den) (R : V → AH → Prop) (env : Env) (H : AH) : Prop := D (cAt [1, 1, 1, 1] spec_l1Rd_oddRx_b) [] [] env H (spec_l1Rd_oddRx_p R)
def L_spec_l1Rd_oddRx_2 (D : Den) (R : V → AH → Prop) (env : Env) (H : AH) (K1 : Env → AH → Prop) : Prop := D (cAt [1, 1, 1, 0, 1, 0, 1, 1, 1, 1, 1, 1, 1, 1, 1, 1, 1, 0, 1, 0, 0] spec_l1Rd_oddRx_b) [(1, [5, 4]), (0, [5, 4])] [7, 4, 5] env H (seqQ (fun e H => K1 (keepE e [7, 4, 5]) H) (blockQ 1 (blockQ 0 (seqQ (fun e H => J_spec_l1Rd_oddRx_1 D R (keepE e [5, 4]) H) (spec_l1Rd_oddRx_p R)))))
def J_spec_l1Rd_oddRx_3 (D : Den) (R : V → AH → Prop) (K1 : Env → AH → Prop) (env : Env) (H : AH) : Prop := D (cAt [1, 1, 1, 0, 1, 0, 1, 1, 1, 1, 1, 1, 1, 1, 1, 1, 1, 0, 1, 0, 0, 1] spec_l1Rd_oddRx_b) [(1, [5, 4]), (0, [5, 4])] [7, 4, 5] env H (seqQ (fun e H => K1 (keepE e [7, 4, 5]) H) (blockQ 1 (blockQ 0 (seqQ (fun e H => J_spec_l1Rd_oddRx_1 D R (keepE e [5, 4]) H) (spec_l1Rd_oddRx_p R)))))
def J_spec_l1Rd_oddRx_4 (D : Den) (R : V → AH → Prop) (K1 : Env → AH → Prop) (env : Env) (H : AH) : Prop := D (cAt [1, 1, 1, 0, 1, 0, 1, 1, 1, 1, 1, 1, 1, 1, 1, 1, 1, 0, 1, 0, 0, 1, 1] spec_l1Rd_oddRx_b) [(1, [5, 4]), (0, [5, 4])] [7, 4, 5] env H (seqQ (fun e H => K1 (keepE e [7, 4, 5]) H) (blockQ 1 (blockQ 0 (seqQ (fun e H => J_spec_l1Rd_oddRx_1 D R (keepE e [5, 4]) H) (spec_l1Rd_oddRx_p R)))))
theorem spec_l1Rd_oddRx_in {args : List V} {H : AH} {R : V → AH → Prop} (h : ∀ D, IsD 96 [4] D → D spec_l1Rd_oddRx_b [] [] (argEnv 0 args) H (spec_l1Rd_oddRx_p R)) (hn : args.length ≤ 96 := by exact of_decide_eq_true rfl) : CallsA prog spec_l1Rd_oddRx args H R := callsD_of Go.Proofs.Tryd.func37 (by kernel_rfl) (by kernel_rfl) (by kernel_rfl) (enters_of Go.Proofs.Tryd.func37 (by kernel_rfl) rfl) hn h
theorem spec_l1Rd_oddRx_eq (hD : IsD 96 [4] D) {r_b0 r_i0 : Nat} {deep0 : Int} {H0 : AH} : D spec_l1Rd_oddRx_b [] [] (argEnv 0 [V.ptr r_b0 r_i0, V.int IntKind.i64 deep0]) H0 (spec_l1Rd_oddRx_p R) = (
  CallsA prog spec_l1Rd_rx [V.ptr r_b0 r_i0, V.int IntKind.i64 deep0] (H0 ++ [Blk.cells [V.sl 0 0 0 Cap.nil] false]) fun v0 H1 =>
  asAgg v0 fun l0 =>
    uncons l0 fun v1 l1 =>
      asSl v1 fun b0 i0 n0 c0 =>
        unnil l1
          (stK (H1 ++ [Blk.cells [V.sl 0 0 0 Cap.nil] false]) (List.length H1) 0 [V.sl b0 i0 n0 c0] fun H2 =>
            ld H2 (List.length H1) 0 fun v2 =>
              asSl v2 fun b1 i1 n1 c1 =>
                CallsA prog spec_l1Rd_below [V.ptr r_b0 r_i0, V.int IntKind.i64 (↑n1 : Int)] H2 fun v3 H3 =>
                  asInt IntKind.i64 v3 fun n2 =>
                    CallsA prog spec_l1Rd_below [V.ptr r_b0 r_i0, V.int IntKind.i64 40] H3 fun v4 H4 =>
                      asInt IntKind.i64 v4 fun n3 =>
                        splitB (n3 == 0)
                          (ld H4 (List.length H1) 0 fun v5 =>
                            asSl v5 fun b2 i2 n4 c2 =>
                              CallsA prog spec_l1Rd_off [V.ptr r_b0 r_i0, V.int IntKind.i64 1, V.int IntKind.i64 8] H4 fun v6 H5 =>
                                asInt IntKind.i64 v6 fun n5 =>
                                  H5.cell (List.length H1) 0 = some (V.sl b2 i2 n4 c2) ∧
                                    inB n2 n4 ∧
                                      stK H5 b2 (i2 + n2.toNat * 5) [V.int IntKind.i64 n5] fun H6 =>
                                        J_spec_l1Rd_oddRx_1 D R [(5, V.ptr (List.length H1) 0), (4, V.ptr (List.length H0) 0)] H6)
                          (splitB (n3 == 1)
                            (ld H4 (List.length H1) 0 fun v7 =>
                              asSl v7 fun b3 i3 n6 c3 =>
                                CallsA prog spec_l1Rd_off [V.ptr r_b0 r_i0, V.int IntKind.i64 0, V.int IntKind.i64 30] H4 fun v8 H7 =>
                                  asInt IntKind.i64 v8 fun n7 =>
                                    H7.cell (List.length H1) 0 = some (V.sl b3 i3 n6 c3) ∧
                                      inB n2 n6 ∧
                                        stK H7 b3 (i3 + n2.toNat * 5 + 3) [V.int IntKind.i64 n7] fun H8 =>
                                          J_spec_l1Rd_oddRx_1 D R [(5, V.ptr (List.length H1) 0), (4, V.ptr (List.length H0) 0)] H8)
                            (splitB (n3 == 2)
                              (ld H4 (List.length H1) 0 fun v9 =>
                                asSl v9 fun b4 i4 n8 c4 =>
                                  ld H4 (List.length H1) 0 fun v10 =>
                                    asSl v10 fun b5 i5 n9 c5 =>
                                      inB n2 n9 ∧
                                        ld H4 b5 (i5 + n2.toNat * 5 + 2) fun v11 =>
                                          asSl v11 fun b6 i6 n10 c6 =>
                                            CallsA prog spec_l1Rd_off [V.ptr r_b0 r_i0, V.int IntKind.i64 0, V.int IntKind.i64 n2] H4 fun v12 H9 =>
                                              asInt IntKind.i64 v12 fun n11 =>
                                                H9.cell b5 (i5 + n2.toNat * 5 + 2) = some (V.sl b6 i6 n10 c6) ∧
                                                  H9.cell (List.length H1) 0 = some (V.sl b5 i5 n9 c5) ∧
                                                    H9.cell (List.length H1) 0 = some (V.sl b4 i4 n8 c4) ∧
                                                      cellsK (H9 ++ [Blk.cells [V.int IntKind.i64 n11] false]) (List.length H9) 0 1 fun l2 =>
                                                        app (H9 ++ [Blk.cells [V.int IntKind.i64 n11] false]) 1 8 b6 i6 n10 c6 1 l2 fun b7 i7 n12 c7 H10 =>
                                                          H10.cell (List.length H1) 0 = some (V.sl b4 i4 n8 c4) ∧
                                                            inB n2 n8 ∧
                                                              stK H10 b4 (i4 + n2.toNat * 5 + 2) [V.sl b7 i7 n12 c7] fun H11 =>
                                                                J_spec_l1Rd_oddRx_1 D R [(5, V.ptr (List.length H1) 0), (4, V.ptr (List.length H0) 0)] H11)
                              (splitB (n3 == 3)
                                (ld H4 (List.length H1) 0 fun v13 =>
                                  asSl v13 fun b8 i8 n13 c8 =>
                                    ld H4 (List.length H1) 0 fun v14 =>
                                      asSl v14 fun b9 i9 n14 c9 =>
                                        inB n2 n14 ∧
                                          ld H4 b9 (i9 + n2.toNat * 5 + 0) fun v15 =>
                                            asInt IntKind.i64 v15 fun n15 =>
                                              ld H4 b9 (i9 + n2.toNat * 5 + 1) fun v16 =>
                                                asSl v16 fun b10 i10 n16 c10 =>
                                                  ld H4 b9 (i9 + n2.toNat * 5 + 2) fun v17 =>
                                                    asSl v17 fun b11 i11 n17 c11 =>
                                                      ld H4 b9 (i9 + n2.toNat * 5 + 3) fun v18 =>
                                                        asInt IntKind.i64 v18 fun n18 =>
                                                          ld H4 b9 (i9 + n2.toNat * 5 + 4) fun v19 =>
                                                            asInt IntKind.i64 v19 fun n19 =>
                                                              cellsK
                                                                (H4 ++
                                                                  [Blk.cells [V.int IntKind.i64 n15, V.sl b10 i10 n16 c10, V.sl b11 i11 n17 c11, V.int IntKind.i64 n18, V.int IntKind.i64 n19] false])
                                                                (List.length H4) 0 5 fun l3 =>
                                                                app
                                                                  (H4 ++
                                                                    [Blk.cells [V.int IntKind.i64 n15, V.sl b10 i10 n16 c10, V.sl b11 i11 n17 c11, V.int IntKind.i64 n18, V.int IntKind.i64 n19] false])
                                                                  5 72 b8 i8 n13 c8 1 l3 fun b12 i12 n20 c12 H12 =>
                                                                  stK H12 (List.length H1) 0 [V.sl b12 i12 n20 c12] fun H13 =>
                                                                    J_spec_l1Rd_oddRx_1 D R [(5, V.ptr (List.length H1) 0), (4, V.ptr (List.length H0) 0)] H13)
                                (splitB (n3 == 4)
                                  (ld H4 (List.length H1) 0 fun v20 =>
                                    asSl v20 fun b13 i13 n21 c13 =>
                                      CallsA prog spec_l1Rd_oddClass [V.ptr r_b0 r_i0] H4 fun v21 H14 =>
                                        asSl v21 fun b14 i14 n22 c14 =>
                                          H14.cell (List.length H1) 0 = some (V.sl b13 i13 n21 c13) ∧
                                            inB n2 n21 ∧
                                              stK H14 b13 (i13 + n2.toNat * 5 + 1) [V.sl b14 i14 n22 c14] fun H15 =>
                                                J_spec_l1Rd_oddRx_1 D R [(5, V.ptr (List.length H1) 0), (4, V.ptr (List.length H0) 0)] H15)
                                  (splitB (n3 == 5)
                                    (CallsA prog spec_l1Rd_below [V.ptr r_b0 r_i0, V.int IntKind.i64 5] H4 fun v22 H16 =>
                                      asInt IntKind.i64 v22 fun n23 =>
                                        LoopI (L_spec_l1Rd_oddRx_2 D R)
                                          [(7, V.int IntKind.i64 (IntKind.i64.wrap (148 + n23))), (4, V.ptr (List.length H0) 0), (5, V.ptr (List.length H1) 0)] H16)
                                    (J_spec_l1Rd_oddRx_1 D R [(5, V.ptr (List.length H1) 0), (4, V.ptr (List.length H0) 0)] H4)))))))) := (hD _ _ _ _ _ _).trans (by kernel_rfl)
theorem J_spec_l1Rd_oddRx_1_eq (hD : IsD 96 [4] D) {x_b0 x_i0 x4_b0 x4_i0 : Nat} {H0 : AH} : J_spec_l1Rd_oddRx_1 D R [(5, V.ptr x_b0 x_i0), (4, V.ptr x4_b0 x4_i0)] H0 = (
  ld H0 x_b0 (x_i0 + 0) fun v0 => asSl v0 fun b0 i0 n0 c0 => stK H0 x4_b0 x4_i0 [V.sl b0 i0 n0 c0] fun H1 => ld H1 x4_b0 (x4_i0 + 0) fun v1 => asSl v1 fun b1 i1 n1 c1 => R (V.agg [V.sl b1 i1 n1 c1]) H1) := (hD _ _ _ _ _ _).trans (by kernel_rfl)
theorem L_spec_l1Rd_oddRx_2_eq (hD : IsD 96 [4] D) {n0 : Int} {x4_b0 x4_i0 x_b0 x_i0 : Nat} {H0 : AH} : L_spec_l1Rd_oddRx_2 D R [(7, V.int IntKind.i64 n0), (4, V.ptr x4_b0 x4_i0), (5, V.ptr x_b0 x_i0)] H0 K1 = (
  splitB (decide (n0 > 0)) (J_spec_l1Rd_oddRx_3 D R K1 [(7, V.int IntKind.i64 n0), (4, V.ptr x4_b0 x4_i0), (5, V.ptr x_b0 x_i0)] H0)
  (J_spec_l1Rd_oddRx_1 D R [(5, V.ptr x_b0 x_i0), (4, V.ptr x4_b0 x4_i0)] H0)) := (hD _ _ _ _ _ _).trans (by kernel_rfl)
theorem J_spec_l1Rd_oddRx_3_eq (hD : IsD 96 [4] D) {n0 : Int} {x4_b0 x4_i0 x_b0 x_i0 : Nat} {H0 : AH} : J_spec_l1Rd_oddRx_3 D R K1 [(7, V.int IntKind.i64 n0), (4, V.ptr x4_b0 x4_i0), (5, V.ptr x_b0 x_i0)] H0 = (
  ld H0 x_b0 x_i0 fun v0 =>
  asSl v0 fun b0 i0 n1 c0 =>
    ld H0 x_b0 x_i0 fun v1 =>
      asSl v1 fun b1 i1 n2 c1 =>
        cellsK
          (H0 ++ [Blk.cells [V.int IntKind.i64 (IntKind.i64.wrap ((↑n2 : Int) - 1))] false] ++
            [Blk.cells [V.int IntKind.i64 5, V.sl 0 0 0 Cap.nil, V.sl (List.length H0) 0 1 (Cap.ex 1), V.int IntKind.i64 0, V.int IntKind.i64 0] false])
          (List.length (H0 ++ [Blk.cells [V.int IntKind.i64 (IntKind.i64.wrap ((↑n2 : Int) - 1))] false])) 0 5 fun l0 =>
          app
            (H0 ++ [Blk.cells [V.int IntKind.i64 (IntKind.i64.wrap ((↑n2 : Int) - 1))] false] ++
              [Blk.cells [V.int IntKind.i64 5, V.sl 0 0 0 Cap.nil, V.sl (List.length H0) 0 1 (Cap.ex 1), V.int IntKind.i64 0, V.int IntKind.i64 0] false])
            5 72 b0 i0 n1 c0 1 l0 fun b2 i2 n3 c2 H1 =>
            stK H1 x_b0 x_i0 [V.sl b2 i2 n3 c2] fun H2 => J_spec_l1Rd_oddRx_4 D R K1 [(7, V.int IntKind.i64 n0), (4, V.ptr x4_b0 x4_i0), (5, V.ptr x_b0 x_i0)] H2) := (hD _ _ _ _ _ _).trans (by kernel_rfl)
theorem J_spec_l1Rd_oddRx_4_eq (hD : IsD 96 [4] D) {n0 : Int} {x4_b0 x4_i0 x_b0 x_i0 : Nat} {H0 : AH} : J_spec_l1Rd_oddRx_4 D R K1 [(7, V.int IntKind.i64 n0), (4, V.ptr x4_b0 x4_i0), (5, V.ptr x_b0 x_i0)] H0 = (
  K1 [(7, V.int IntKind.i64 (IntKind.i64.wrap (n0 - 1))), (4, V.ptr x4_b0 x4_i0), (5, V.ptr x_b0 x_i0)] H0) := (hD _ _ _ _ _ _).trans (by kernel_rfl)

/-! ### impl_Rx_nullable -/
noncomputable def impl_Rx_nullable_b : Code := (Go.Proofs.Tryd.f30.body).getD .skip
noncomputable abbrev impl_Rx_nullable_p (R : V → AH → Prop) : APost := postK prog (Go.Proofs.Tryd.f30.results.toList) R
def J_impl_Rx_nullable_1 (D : Den) (R : V → AH → Prop) (env : Env) (H : AH) : Prop := D (cAt [1, 1, 1] impl_Rx_nullable_b) [] [] env H (impl_Rx_nullable_p R)
def J_impl_Rx_nullable_2 (D : Den) (R : V → AH → Prop) (env : Env) (H : AH) : Prop := D (cAt [1, 1, 0, 1, 0, 1] impl_Rx_nullable_b) [(0, [2, 5])] [2, 5] env H (blockQ 0 (seqQ (fun e H => J_impl_Rx_nullable_1 D R (keepE e [2, 5]) H) (impl_Rx_nullable_p R)))
def J_impl_Rx_nullable_3 (D : Den) (R : V → AH → Prop) (env : Env) (H : AH) : Prop := D (cAt [1, 1, 0, 1, 0, 1, 1, 1, 1, 1, 0, 1] impl_Rx_nullable_b) [(0, [2, 5])] [2, 5] env H (blockQ 0 (seqQ (fun e H => J_impl_Rx_nullable_1 D R (keepE e [2, 5]) H) (impl_Rx_nullable_p R)))
def J_impl_Rx_nullable_4 (D : Den) (R : V → AH → Prop) (env : Env) (H : AH) : Prop := D (cAt [1, 1, 0, 1, 0, 1, 1, 1, 1, 1, 1, 1, 0, 1] impl_Rx_nullable_b) [(0, [2, 5])] [2, 5] env H (blockQ 0 (seqQ (fun e H => J_impl_Rx_nullable_1 D R (keepE e [2, 5]) H) (impl_Rx_nullable_p R)))
def J_impl_Rx_nullable_5 (D : Den) (R : V → AH → Prop) (env : Env) (H : AH) : Prop := D (cAt [1, 1, 1, 1] impl_Rx_nullable_b) [] [] env H (impl_Rx_nullable_p R)
theorem impl_Rx_nullable_in {args : List V} {H : AH} {R : V → AH → Prop} (h : ∀ D, IsD 67 [4] D → D impl_Rx_nullable_b [] [] (argEnv 0 args) H (impl_Rx_nullable_p R)) (hn : args.length ≤ 67 := by exact of_decide_eq_true rfl) : CallsA prog impl_Rx_nullable args H R := callsD_of Go.Proofs.Tryd.func30 (by kernel_rfl) (by kernel_rfl) (by kernel_rfl) (enters_of Go.Proofs.Tryd.func30 (by kernel_rfl) rfl) hn h
theorem impl_Rx_nullable_eq (hD : IsD 67 [4] D) {x_b0 x_i0 x_n0 : Nat} {x_c0 : Cap} {place0 : Int} {H0 : AH} : D impl_Rx_nullable_b [] [] (argEnv 0 [V.agg [V.sl x_b0 x_i0 x_n0 x_c0], V.int IntKind.i64 place0]) H0 (impl_Rx_nullable_p R) = (
  ld (H0 ++ [Blk.cells [V.sl x_b0 x_i0 x_n0 x_c0] false]) (List.length H0) 0 fun v0 =>
  asSl v0 fun b0 i0 n0 c0 =>
    inB place0 n0 ∧
      ld (H0 ++ [Blk.cells [V.sl x_b0 x_i0 x_n0 x_c0] false]) b0 (i0 + place0.toNat * 5 + 0) fun v1 =>
        asInt IntKind.i64 v1 fun n1 =>
          ld (H0 ++ [Blk.cells [V.sl x_b0 x_i0 x_n0 x_c0] false]) b0 (i0 + place0.toNat * 5 + 1) fun v2 =>
            asSl v2 fun b1 i1 n2 c1 =>
              ld (H0 ++ [Blk.cells [V.sl x_b0 x_i0 x_n0 x_c0] false]) b0 (i0 + place0.toNat * 5 + 2) fun v3 =>
                asSl v3 fun b2 i2 n3 c2 =>
                  ld (H0 ++ [Blk.cells [V.sl x_b0 x_i0 x_n0 x_c0] false]) b0 (i0 + place0.toNat * 5 + 3) fun v4 =>
                    asInt IntKind.i64 v4 fun n4 =>
                      ld (H0 ++ [Blk.cells [V.sl x_b0 x_i0 x_n0 x_c0] false]) b0 (i0 + place0.toNat * 5 + 4) fun v5 =>
                        asInt IntKind.i64 v5 fun n5 =>
                          stK
                            (H0 ++ [Blk.cells [V.sl x_b0 x_i0 x_n0 x_c0] false] ++
                              [Blk.cells [V.int IntKind.i64 0, V.sl 0 0 0 Cap.nil, V.sl 0 0 0 Cap.nil, V.int IntKind.i64 0, V.int IntKind.i64 0] false])
                            (List.length (H0 ++ [Blk.cells [V.sl x_b0 x_i0 x_n0 x_c0] false])) 0 [V.int IntKind.i64 n1, V.sl b1 i1 n2 c1, V.sl b2 i2 n3 c2, V.int IntKind.i64 n4, V.int IntKind.i64 n5]
                            fun H1 =>
                            ld H1 (List.length (H0 ++ [Blk.cells [V.sl x_b0 x_i0 x_n0 x_c0] false])) 0 fun v6 =>
                              asInt IntKind.i64 v6 fun n6 =>
                                splitB (n6 == 1)
                                  (J_impl_Rx_nullable_2 D R
                                    [(13, V.bool (n6 == 1)), (12, V.int IntKind.i64 n6), (2, V.ptr (List.length H0) 0), (5, V.ptr (List.length (H0 ++ [Blk.cells [V.sl x_b0 x_i0 x_n0 x_c0] false])) 0)]
                                    H1)
                                  (splitB (n6 == 5)
                                    (J_impl_Rx_nullable_2 D R
                                      [(13, V.bool (n6 == 5)), (12, V.int IntKind.i64 n6), (2, V.ptr (List.length H0) 0),
                                        (5, V.ptr (List.length (H0 ++ [Blk.cells [V.sl x_b0 x_i0 x_n0 x_c0] false])) 0)]
                                      H1)
                                    (J_impl_Rx_nullable_2 D R
                                      [(13, V.bool (n6 == 7)), (12, V.int IntKind.i64 n6), (2, V.ptr (List.length H0) 0),
                                        (5, V.ptr (List.length (H0 ++ [Blk.cells [V.sl x_b0 x_i0 x_n0 x_c0] false])) 0)]
                                      H1))) := (hD _ _ _ _ _ _).trans (by kernel_rfl)
theorem J_impl_Rx_nullable_2_eq (hD : IsD 67 [4] D) {x130 : Bool} {x120 : Int} {x_b0 x_i0 n_b0 n_i0 : Nat} {H0 : AH} : J_impl_Rx_nullable_2 D R [(13, V.bool x130), (12, V.int IntKind.i64 x120), (2, V.ptr x_b0 x_i0), (5, V.ptr n_b0 n_i0)] H0 = (
  splitB x130 (R (V.bool true) H0)
  (splitB (x120 == 2) (R (V.bool false) H0)
    (splitB (x120 == 3)
      (ld H0 x_b0 (x_i0 + 0) fun v0 =>
        asSl v0 fun b0 i0 n0 c0 =>
          ld H0 n_b0 (n_i0 + 2) fun v1 =>
            asSl v1 fun b1 i1 n1 c1 =>
              inB 0 n1 ∧
                ld H0 b1 i1 fun v2 =>
                  asInt IntKind.i64 v2 fun n2 =>
                    CallsA prog impl_Rx_nullable [V.agg [V.sl b0 i0 n0 c0], V.int IntKind.i64 n2] H0 fun v3 H1 =>
                      asBool v3 fun t0 =>
                        splitB t0
                          (ld H1 x_b0 (x_i0 + 0) fun v4 =>
                            asSl v4 fun b2 i2 n3 c2 =>
                              ld H1 n_b0 (n_i0 + 2) fun v5 =>
                                asSl v5 fun b3 i3 n4 c3 =>
                                  inB 1 n4 ∧
                                    ld H1 b3 (i3 + 1) fun v6 =>
                                      asInt IntKind.i64 v6 fun n5 =>
                                        CallsA prog impl_Rx_nullable [V.agg [V.sl b2 i2 n3 c2], V.int IntKind.i64 n5] H1 fun v7 H2 =>
                                          asBool v7 fun t1 => J_impl_Rx_nullable_3 D R [(4, V.bool t1)] H2)
                          (J_impl_Rx_nullable_3 D R [(4, V.bool false)] H1))
      (splitB (x120 == 4)
        (ld H0 x_b0 (x_i0 + 0) fun v8 =>
          asSl v8 fun b4 i4 n6 c4 =>
            ld H0 n_b0 (n_i0 + 2) fun v9 =>
              asSl v9 fun b5 i5 n7 c5 =>
                inB 0 n7 ∧
                  ld H0 b5 i5 fun v10 =>
                    asInt IntKind.i64 v10 fun n8 =>
                      CallsA prog impl_Rx_nullable [V.agg [V.sl b4 i4 n6 c4], V.int IntKind.i64 n8] H0 fun v11 H3 =>
                        asBool v11 fun t2 =>
                          splitB t2 (J_impl_Rx_nullable_4 D R [(4, V.bool true)] H3)
                            (ld H3 x_b0 (x_i0 + 0) fun v12 =>
                              asSl v12 fun b6 i6 n9 c6 =>
                                ld H3 n_b0 (n_i0 + 2) fun v13 =>
                                  asSl v13 fun b7 i7 n10 c7 =>
                                    inB 1 n10 ∧
                                      ld H3 b7 (i7 + 1) fun v14 =>
                                        asInt IntKind.i64 v14 fun n11 =>
                                          CallsA prog impl_Rx_nullable [V.agg [V.sl b6 i6 n9 c6], V.int IntKind.i64 n11] H3 fun v15 H4 =>
                                            asBool v15 fun t3 => J_impl_Rx_nullable_4 D R [(4, V.bool t3)] H4))
        (J_impl_Rx_nullable_1 D R [(2, V.ptr x_b0 x_i0), (5, V.ptr n_b0 n_i0)] H0))))) := (hD _ _ _ _ _ _).trans (by kernel_rfl)
theorem J_impl_Rx_nullable_3_eq (hD : IsD 67 [4] D) {x40 : Bool} {H0 : AH} : J_impl_Rx_nullable_3 D R [(4, V.bool x40)] H0 = (
  R (V.bool x40) H0) := (hD _ _ _ _ _ _).trans (by kernel_rfl)
theorem J_impl_Rx_nullable_4_eq (hD : IsD 67 [4] D) {x40 : Bool} {H0 : AH} : J_impl_Rx_nullable_4 D R [(4, V.bool x40)] H0 = (
  R (V.bool x40) H0) := (hD _ _ _ _ _ _).trans (by kernel_rfl)
theorem J_impl_Rx_nullable_1_eq (hD : IsD 67 [4] D) {x_b0 x_i0 n_b0 n_i0 : Nat} {H0 : AH} : J_impl_Rx_nullable_1 D R [(2, V.ptr x_b0 x_i0), (5, V.ptr n_b0 n_i0)] H0 = (
  ld H0 n_b0 n_i0 fun v0 =>
  asInt IntKind.i64 v0 fun n0 =>
    splitB (n0 == 8)
      (ld H0 n_b0 (n_i0 + 3) fun v1 =>
        asInt IntKind.i64 v1 fun n1 =>
          splitB (n1 == 0) (J_impl_Rx_nullable_5 D R [(4, V.bool true)] H0)
            (ld H0 x_b0 (x_i0 + 0) fun v2 =>
              asSl v2 fun b0 i0 n2 c0 =>
                ld H0 n_b0 (n_i0 + 2) fun v3 =>
                  asSl v3 fun b1 i1 n3 c1 =>
                    inB 0 n3 ∧
                      ld H0 b1 i1 fun v4 =>
                        asInt IntKind.i64 v4 fun n4 =>
                          CallsA prog impl_Rx_nullable [V.agg [V.sl b0 i0 n2 c0], V.int IntKind.i64 n4] H0 fun v5 H1 => asBool v5 fun t0 => J_impl_Rx_nullable_5 D R [(4, V.bool t0)] H1))
      (ld H0 x_b0 (x_i0 + 0) fun v6 =>
        asSl v6 fun b2 i2 n5 c2 =>
          ld H0 n_b0 (n_i0 + 2) fun v7 =>
            asSl v7 fun b3 i3 n6 c3 =>
              inB 0 n6 ∧
                ld H0 b3 i3 fun v8 =>
                  asInt IntKind.i64 v8 fun n7 =>
                    CallsA prog impl_Rx_nullable [V.agg [V.sl b2 i2 n5 c2], V.int IntKind.i64 n7] H0 fun v9 H2 => asBool v9 fun t1 => J_impl_Rx_nullable_5 D R [(4, V.bool t1)] H2)) := (hD _ _ _ _ _ _).trans (by kernel_rfl)
theorem J_impl_Rx_nullable_5_eq (hD : IsD 67 [4] D) {x40 : Bool} {H0 : AH} : J_impl_Rx_nullable_5 D R [(4, V.bool x40)] H0 = (
  R (V.bool x40) H0) := (hD _ _ _ _ _ _).trans (by kernel_rfl)

/-! ### spec_l1Both -/
noncomputable def spec_l1Both_b : Code := (Go.Proofs.Tryd.f86.body).getD .skip
noncomputable abbrev spec_l1Both_p (R : V → AH → Prop) : APost := postK prog (Go.Proofs.Tryd.f86.results.toList) R
def J_spec_l1Both_1 (D : Den) (R : V → AH → Prop) (env : Env) (H : AH) : Prop := D (cAt [1, 1] spec_l1Both_b) [] [] env H (spec_l1Both_p R)
def J_spec_l1Both_2 (D : Den) (R : V → AH → Prop) (env : Env) (H : AH) : Prop := D (cAt [1, 0, 1] spec_l1Both_b) [] [0, 1, 2] env H (seqQ (fun e H => J_spec_l1Both_1 D R (keepE e [0, 1, 2]) H) (spec_l1Both_p R))
def J_spec_l1Both_3 (D : Den) (R : V → AH → Prop) (env : Env) (H : AH) : Prop := D (cAt [1, 1, 1, 1, 1] spec_l1Both_b) [] [] env H (spec_l1Both_p R)
def L_spec_l1Both_4 (D : Den) (R : V → AH → Prop) (env : Env) (H : AH) (K1 : Env → AH → Prop) : Prop := D (cAt [1, 1, 1, 1, 0, 1, 0, 0] spec_l1Both_b) [(0, [7])] [9, 2, 7, 8] env H (seqQ (fun e H => K1 (keepE e [9, 2, 7, 8]) H) (blockQ 0 (seqQ (fun e H => J_spec_l1Both_3 D R (keepE e [7]) H) (spec_l1Both_p R))))
def J_spec_l1Both_5 (D : Den) (R : V → AH → Prop) (K1 : Env → AH → Prop) (env : Env) (H : AH) : Prop := D (cAt [1, 1, 1, 1, 0, 1, 0, 0, 1] spec_l1Both_b) [(0, [7])] [9, 2, 7, 8] env H (seqQ (fun e H => K1 (keepE e [9, 2, 7, 8]) H) (blockQ 0 (seqQ (fun e H => J_spec_l1Both_3 D R (keepE e [7]) H) (spec_l1Both_p R))))
def J_spec_l1Both_6 (D : Den) (R : V → AH → Prop) (K1 : Env → AH → Prop) (env : Env) (H : AH) : Prop := D (cAt [1, 1, 1, 1, 0, 1, 0, 0, 1, 1] spec_l1Both_b) [(0, [7])] [9, 2, 7, 8] env H (seqQ (fun e H => K1 (keepE e [9, 2, 7, 8]) H) (blockQ 0 (seqQ (fun e H => J_spec_l1Both_3 D R (keepE e [7]) H) (spec_l1Both_p R))))
theorem spec_l1Both_in {args : List V} {H : AH} {R : V → AH → Prop} (h : ∀ D, IsD 76 [6] D → D spec_l1Both_b [] [] (argEnv 0 args) H (spec_l1Both_p R)) (hn : args.length ≤ 76 := by exact of_decide_eq_true rfl) : CallsA prog spec_l1Both args H R := callsD_of Go.Proofs.Tryd.func86 (by kernel_rfl) (by kernel_rfl) (by kernel_rfl) (enters_of Go.Proofs.Tryd.func86 (by kernel_rfl) rfl) hn h
theorem spec_l1Both_eq (hD : IsD 76 [6] D) {a_b0 a_i0 a_n0 : Nat} {a_c0 : Cap} {b_b0 b_i0 b_n0 : Nat} {b_c0 : Cap} {rule0 : Int} {H0 : AH} : D spec_l1Both_b [] [] (argEnv 0 [V.sl a_b0 a_i0 a_n0 a_c0, V.sl b_b0 b_i0 b_n0 b_c0, V.int IntKind.i64 rule0]) H0 (spec_l1Both_p R) = (
  CallsA prog spec_ClassOk [V.sl a_b0 a_i0 a_n0 a_c0] H0 fun v0 H1 =>
  asBool v0 fun t0 =>
    splitB (!t0) (J_spec_l1Both_2 D R [(17, V.bool true), (2, V.int IntKind.i64 rule0), (1, V.sl b_b0 b_i0 b_n0 b_c0), (0, V.sl a_b0 a_i0 a_n0 a_c0)] H1)
      (CallsA prog spec_ClassOk [V.sl b_b0 b_i0 b_n0 b_c0] H1 fun v1 H2 =>
        asBool v1 fun t1 => J_spec_l1Both_2 D R [(17, V.bool !t1), (2, V.int IntKind.i64 rule0), (1, V.sl b_b0 b_i0 b_n0 b_c0), (0, V.sl a_b0 a_i0 a_n0 a_c0)] H2)) := (hD _ _ _ _ _ _).trans (by kernel_rfl)
theorem J_spec_l1Both_2_eq (hD : IsD 76 [6] D) {x170 : Bool} {rule0 : Int} {b_b0 b_i0 b_n0 : Nat} {b_c0 : Cap} {a_b0 a_i0 a_n0 : Nat} {a_c0 : Cap} {H0 : AH} : J_spec_l1Both_2 D R [(17, V.bool x170), (2, V.int IntKind.i64 rule0), (1, V.sl b_b0 b_i0 b_n0 b_c0), (0, V.sl a_b0 a_i0 a_n0 a_c0)] H0 = (
  splitB x170 (R (V.sl (List.length H0) 0 0 (Cap.ex 0)) (H0 ++ [Blk.cells [] false]))
  (J_spec_l1Both_1 D R [(0, V.sl a_b0 a_i0 a_n0 a_c0), (1, V.sl b_b0 b_i0 b_n0 b_c0), (2, V.int IntKind.i64 rule0)] H0)) := (hD _ _ _ _ _ _).trans (by kernel_rfl)
theorem J_spec_l1Both_1_eq (hD : IsD 76 [6] D) {a_b0 a_i0 a_n0 : Nat} {a_c0 : Cap} {b_b0 b_i0 b_n0 : Nat} {b_c0 : Cap} {rule0 : Int} {H0 : AH} : J_spec_l1Both_1 D R [(0, V.sl a_b0 a_i0 a_n0 a_c0), (1, V.sl b_b0 b_i0 b_n0 b_c0), (2, V.int IntKind.i64 rule0)] H0 = (
  CallsA prog spec_l1Marks [V.sl a_b0 a_i0 a_n0 a_c0] H0 fun v0 H1 =>
  asSl v0 fun b0 i0 n0 c0 =>
    CallsA prog spec_l1Marks [V.sl b_b0 b_i0 b_n0 b_c0] H1 fun v1 H2 =>
      asSl v1 fun b1 i1 n1 c1 => LoopI (L_spec_l1Both_4 D R) [(9, V.int IntKind.i64 0), (2, V.int IntKind.i64 rule0), (7, V.sl b0 i0 n0 c0), (8, V.sl b1 i1 n1 c1)] H2) := (hD _ _ _ _ _ _).trans (by kernel_rfl)
theorem L_spec_l1Both_4_eq (hD : IsD 76 [6] D) {i0 rule0 : Int} {x_b0 x_i0 x_n0 : Nat} {x_c0 : Cap} {y_b0 y_i0 y_n0 : Nat} {y_c0 : Cap} {H0 : AH} : L_spec_l1Both_4 D R [(9, V.int IntKind.i64 i0), (2, V.int IntKind.i64 rule0), (7, V.sl x_b0 x_i0 x_n0 x_c0), (8, V.sl y_b0 y_i0 y_n0 y_c0)] H0 K1 = (
  splitB (decide (i0 < 256)) (J_spec_l1Both_5 D R K1 [(9, V.int IntKind.i64 i0), (2, V.int IntKind.i64 rule0), (7, V.sl x_b0 x_i0 x_n0 x_c0), (8, V.sl y_b0 y_i0 y_n0 y_c0)] H0)
  (J_spec_l1Both_3 D R [(7, V.sl x_b0 x_i0 x_n0 x_c0)] H0)) := (hD _ _ _ _ _ _).trans (by kernel_rfl)
theorem J_spec_l1Both_5_eq (hD : IsD 76 [6] D) {i0 rule0 : Int} {x_b0 x_i0 x_n0 : Nat} {x_c0 : Cap} {y_b0 y_i0 y_n0 : Nat} {y_c0 : Cap} {H0 : AH} : J_spec_l1Both_5 D R K1 [(9, V.int IntKind.i64 i0), (2, V.int IntKind.i64 rule0), (7, V.sl x_b0 x_i0 x_n0 x_c0), (8, V.sl y_b0 y_i0 y_n0 y_c0)] H0 = (
  splitB (rule0 == 0)
  (inB i0 x_n0 ∧
    ld H0 x_b0 (x_i0 + i0.toNat * 1) fun v0 =>
      asBool v0 fun t0 =>
        splitB t0
          (inB i0 x_n0 ∧
            stK H0 x_b0 (x_i0 + i0.toNat * 1) [V.bool true] fun H1 =>
              J_spec_l1Both_6 D R K1 [(9, V.int IntKind.i64 i0), (2, V.int IntKind.i64 rule0), (7, V.sl x_b0 x_i0 x_n0 x_c0), (8, V.sl y_b0 y_i0 y_n0 y_c0)] H1)
          (inB i0 y_n0 ∧
            ld H0 y_b0 (y_i0 + i0.toNat * 1) fun v1 =>
              asBool v1 fun t1 =>
                inB i0 x_n0 ∧
                  stK H0 x_b0 (x_i0 + i0.toNat * 1) [V.bool t1] fun H2 =>
                    J_spec_l1Both_6 D R K1 [(9, V.int IntKind.i64 i0), (2, V.int IntKind.i64 rule0), (7, V.sl x_b0 x_i0 x_n0 x_c0), (8, V.sl y_b0 y_i0 y_n0 y_c0)] H2))
  (splitB (rule0 == 1)
    (inB i0 x_n0 ∧
      ld H0 x_b0 (x_i0 + i0.toNat * 1) fun v2 =>
        asBool v2 fun t2 =>
          splitB t2
            (inB i0 y_n0 ∧
              ld H0 y_b0 (y_i0 + i0.toNat * 1) fun v3 =>
                asBool v3 fun t3 =>
                  inB i0 x_n0 ∧
                    stK H0 x_b0 (x_i0 + i0.toNat * 1) [V.bool t3] fun H3 =>
                      J_spec_l1Both_6 D R K1 [(9, V.int IntKind.i64 i0), (2, V.int IntKind.i64 rule0), (7, V.sl x_b0 x_i0 x_n0 x_c0), (8, V.sl y_b0 y_i0 y_n0 y_c0)] H3)
            (inB i0 x_n0 ∧
              stK H0 x_b0 (x_i0 + i0.toNat * 1) [V.bool false] fun H4 =>
                J_spec_l1Both_6 D R K1 [(9, V.int IntKind.i64 i0), (2, V.int IntKind.i64 rule0), (7, V.sl x_b0 x_i0 x_n0 x_c0), (8, V.sl y_b0 y_i0 y_n0 y_c0)] H4))
    (splitB (rule0 == 2)
      (inB i0 x_n0 ∧
        ld H0 x_b0 (x_i0 + i0.toNat * 1) fun v4 =>
          asBool v4 fun t4 =>
            splitB t4
              (inB i0 y_n0 ∧
                ld H0 y_b0 (y_i0 + i0.toNat * 1) fun v5 =>
                  asBool v5 fun t5 =>
                    inB i0 x_n0 ∧
                      stK H0 x_b0 (x_i0 + i0.toNat * 1) [V.bool !t5] fun H5 =>
                        J_spec_l1Both_6 D R K1 [(9, V.int IntKind.i64 i0), (2, V.int IntKind.i64 rule0), (7, V.sl x_b0 x_i0 x_n0 x_c0), (8, V.sl y_b0 y_i0 y_n0 y_c0)] H5)
              (inB i0 x_n0 ∧
                stK H0 x_b0 (x_i0 + i0.toNat * 1) [V.bool false] fun H6 =>
                  J_spec_l1Both_6 D R K1 [(9, V.int IntKind.i64 i0), (2, V.int IntKind.i64 rule0), (7, V.sl x_b0 x_i0 x_n0 x_c0), (8, V.sl y_b0 y_i0 y_n0 y_c0)] H6))
      (J_spec_l1Both_6 D R K1 [(9, V.int IntKind.i64 i0), (2, V.int IntKind.i64 rule0), (7, V.sl x_b0 x_i0 x_n0 x_c0), (8, V.sl y_b0 y_i0 y_n0 y_c0)] H0)))) := (hD _ _ _ _ _ _).trans (by kernel_rfl)
theorem J_spec_l1Both_3_eq (hD : IsD 76 [6] D) {x_b0 x_i0 x_n0 : Nat} {x_c0 : Cap} {H0 : AH} : J_spec_l1Both_3 D R [(7, V.sl x_b0 x_i0 x_n0 x_c0)] H0 = (
  CallsA prog spec_l1Class [V.sl x_b0 x_i0 x_n0 x_c0] H0 fun v0 H1 => asSl v0 fun b0 i0 n0 c0 => R (V.sl b0 i0 n0 c0) H1) := (hD _ _ _ _ _ _).trans (by kernel_rfl)
theorem J_spec_l1Both_6_eq (hD : IsD 76 [6] D) {i0 rule0 : Int} {x_b0 x_i0 x_n0 : Nat} {x_c0 : Cap} {y_b0 y_i0 y_n0 : Nat} {y_c0 : Cap} {H0 : AH} : J_spec_l1Both_6 D R K1 [(9, V.int IntKind.i64 i0), (2, V.int IntKind.i64 rule0), (7, V.sl x_b0 x_i0 x_n0 x_c0), (8, V.sl y_b0 y_i0 y_n0 y_c0)] H0 = (
  K1 [(9, V.int IntKind.i64 (IntKind.i64.wrap (i0 + 1))), (2, V.int IntKind.i64 rule0), (7, V.sl x_b0 x_i0 x_n0 x_c0), (8, V.sl y_b0 y_i0 y_n0 y_c0)] H0) := (hD _ _ _ _ _ _).trans (by kernel_rfl)

/-! ### impl_combined -/
noncomputable def impl_combined_b : Code := (Go.Proofs.Tryd.f47.body).getD .skip
noncomputable abbrev impl_combined_p (R : V → AH → Prop) : APost := postK prog (Go.Proofs.Tryd.f47.results.toList) R
def J_impl_combined_1 (D : Den) (R : V → AH → Prop) (env : Env) (H : AH) : Prop := D (cAt [1, 1] impl_combined_b) [] [] env H (impl_combined_p R)
def J_impl_combined_2 (D : Den) (R : V → AH → Prop) (env : Env) (H : AH) : Prop := D (cAt [1, 0, 1] impl_combined_b) [] [0, 1, 2] env H (seqQ (fun e H => J_impl_combined_1 D R (keepE e [0, 1, 2]) H) (impl_combined_p R))
def J_impl_combined_3 (D : Den) (R : V → AH → Prop) (env : Env) (H : AH) : Prop := D (cAt [1, 1, 1, 1] impl_combined_b) [] [] env H (impl_combined_p R)
def L_impl_combined_4 (D : Den) (R : V → AH → Prop) (env : Env) (H : AH) (K1 : Env → AH → Prop) : Prop := D (cAt [1, 1, 1, 0, 1, 0, 0] impl_combined_b) [(0, [9])] [24, 2, 7, 8, 9] env H (seqQ (fun e H => K1 (keepE e [24, 2, 7, 8, 9]) H) (blockQ 0 (seqQ (fun e H => J_impl_combined_3 D R (keepE e [9]) H) (impl_combined_p R))))
def J_impl_combined_5 (D : Den) (R : V → AH → Prop) (K1 : Env → AH → Prop) (env : Env) (H : AH) : Prop := D (cAt [1, 1, 1, 0, 1, 0, 0, 1, 1] impl_combined_b) [(0, [9])] [24, 2, 7, 8, 9] env H (seqQ (fun e H => K1 (keepE e [24, 2, 7, 8, 9]) H) (blockQ 0 (seqQ (fun e H => J_impl_combined_3 D R (keepE e [9]) H) (impl_combined_p R))))
def J_impl_combined_6 (D : Den) (R : V → AH → Prop) (K1 : Env → AH → Prop) (env : Env) (H : AH) : Prop := D (cAt [1, 1, 1, 0, 1, 0, 0, 1, 1, 1] impl_combined_b) [(0, [9])] [24, 2, 7, 8, 9] env H (seqQ (fun e H => K1 (keepE e [24, 2, 7, 8, 9]) H) (blockQ 0 (seqQ (fun e H => J_impl_combined_3 D R (keepE e [9]) H) (impl_combined_p R))))
theorem impl_combined_in {args : List V} {H : AH} {R : V → AH → Prop} (h : ∀ D, IsD 40 [6] D → D impl_combined_b [] [] (argEnv 0 args) H (impl_combined_p R)) (hn : args.length ≤ 40 := by exact of_decide_eq_true rfl) : CallsA prog impl_combined args H R := callsD_of Go.Proofs.Tryd.func47 (by kernel_rfl) (by kernel_rfl) (by kernel_rfl) (enters_of Go.Proofs.Tryd.func47 (by kernel_rfl) rfl) hn h
theorem impl_combined_eq (hD : IsD 40 [6] D) {a_b0 a_i0 a_n0 : Nat} {a_c0 : Cap} {b_b0 b_i0 b_n0 : Nat} {b_c0 : Cap} {holds_f0 : Nat} {holds_a0 holds_c0 : List V} {H0 : AH} : D impl_combined_b [] [] (argEnv 0 [V.sl a_b0 a_i0 a_n0 a_c0, V.sl b_b0 b_i0 b_n0 b_c0, V.fn holds_f0 holds_a0 holds_c0]) H0 (impl_combined_p R) = (
  CallsA prog impl_ClassOk [V.sl a_b0 a_i0 a_n0 a_c0] H0 fun v0 H1 =>
  asBool v0 fun t0 =>
    splitB (!t0) (J_impl_combined_2 D R [(18, V.bool true), (2, V.fn holds_f0 holds_a0 holds_c0), (1, V.sl b_b0 b_i0 b_n0 b_c0), (0, V.sl a_b0 a_i0 a_n0 a_c0)] H1)
      (CallsA prog impl_ClassOk [V.sl b_b0 b_i0 b_n0 b_c0] H1 fun v1 H2 =>
        asBool v1 fun t1 => J_impl_combined_2 D R [(18, V.bool !t1), (2, V.fn holds_f0 holds_a0 holds_c0), (1, V.sl b_b0 b_i0 b_n0 b_c0), (0, V.sl a_b0 a_i0 a_n0 a_c0)] H2)) := (hD _ _ _ _ _ _).trans (by kernel_rfl)
theorem J_impl_combined_2_eq (hD : IsD 40 [6] D) {x180 : Bool} {holds_f0 : Nat} {holds_a0 holds_c0 : List V} {b_b0 b_i0 b_n0 : Nat} {b_c0 : Cap} {a_b0 a_i0 a_n0 : Nat} {a_c0 : Cap} {H0 : AH} : J_impl_combined_2 D R [(18, V.bool x180), (2, V.fn holds_f0 holds_a0 holds_c0), (1, V.sl b_b0 b_i0 b_n0 b_c0), (0, V.sl a_b0 a_i0 a_n0 a_c0)] H0 = (
  splitB x180 (R (V.sl 0 0 0 Cap.nil) H0) (J_impl_combined_1 D R [(0, V.sl a_b0 a_i0 a_n0 a_c0), (1, V.sl b_b0 b_i0 b_n0 b_c0), (2, V.fn holds_f0 holds_a0 holds_c0)] H0)) := (hD _ _ _ _ _ _).trans (by kernel_rfl)
theorem J_impl_combined_1_eq (hD : IsD 40 [6] D) {a_b0 a_i0 a_n0 : Nat} {a_c0 : Cap} {b_b0 b_i0 b_n0 : Nat} {b_c0 : Cap} {holds_f0 : Nat} {holds_a0 holds_c0 : List V} {H0 : AH} : J_impl_combined_1 D R [(0, V.sl a_b0 a_i0 a_n0 a_c0), (1, V.sl b_b0 b_i0 b_n0 b_c0), (2, V.fn holds_f0 holds_a0 holds_c0)] H0 = (
  CallsA prog impl_bytesOf [V.sl a_b0 a_i0 a_n0 a_c0] H0 fun v0 H1 =>
  CallsA prog impl_bytesOf [V.sl b_b0 b_i0 b_n0 b_c0] H1 fun v1 H2 =>
    obB (decide (v0.cells.length = 256) && v0.cells.all V.one)
      (stK (H2 ++ [Blk.cells (List.replicate 256 (V.bool false)) false] ++ [Blk.cells (List.replicate 256 (V.bool false)) false] ++ [Blk.cells (List.replicate 256 (V.bool false)) false])
        (List.length H2) 0 v0.cells fun H3 =>
        obB (decide (v1.cells.length = 256) && v1.cells.all V.one)
          (stK H3 (List.length (H2 ++ [Blk.cells (List.replicate 256 (V.bool false)) false])) 0 v1.cells fun H4 =>
            stK H4 (List.length (H2 ++ [Blk.cells (List.replicate 256 (V.bool false)) false] ++ [Blk.cells (List.replicate 256 (V.bool false)) false])) 0 (List.replicate 256 (V.bool false)) fun H5 =>
              LoopI (L_impl_combined_4 D R)
                [(24, V.int IntKind.i64 0), (2, V.fn holds_f0 holds_a0 holds_c0), (7, V.ptr (List.length H2) 0),
                  (8, V.ptr (List.length (H2 ++ [Blk.cells (List.replicate 256 (V.bool false)) false])) 0),
                  (9, V.ptr (List.length (H2 ++ [Blk.cells (List.replicate 256 (V.bool false)) false] ++ [Blk.cells (List.replicate 256 (V.bool false)) false])) 0)]
                H5))) := (hD _ _ _ _ _ _).trans (by kernel_rfl)
theorem L_impl_combined_4_eq (hD : IsD 40 [6] D) {x240 : Int} {holds_f0 : Nat} {holds_a0 holds_c0 : List V} {x_b0 x_i0 y_b0 y_i0 out_b0 out_i0 : Nat} {H0 : AH} : L_impl_combined_4 D R [(24, V.int IntKind.i64 x240), (2, V.fn holds_f0 holds_a0 holds_c0), (7, V.ptr x_b0 x_i0), (8, V.ptr y_b0 y_i0), (9, V.ptr out_b0 out_i0)] H0 K1 = (
  splitB (decide (x240 < 256))
  (J_impl_combined_5 D R K1 [(24, V.int IntKind.i64 x240), (2, V.fn holds_f0 holds_a0 holds_c0), (7, V.ptr x_b0 x_i0), (8, V.ptr y_b0 y_i0), (9, V.ptr out_b0 out_i0)] H0)
  (J_impl_combined_3 D R [(9, V.ptr out_b0 out_i0)] H0)) := (hD _ _ _ _ _ _).trans (by kernel_rfl)
theorem J_impl_combined_5_eq (hD : IsD 40 [6] D) {x240 : Int} {holds_f0 : Nat} {holds_a0 holds_c0 : List V} {x_b0 x_i0 y_b0 y_i0 out_b0 out_i0 : Nat} {H0 : AH} : J_impl_combined_5 D R K1 [(24, V.int IntKind.i64 x240), (2, V.fn holds_f0 holds_a0 holds_c0), (7, V.ptr x_b0 x_i0), (8, V.ptr y_b0 y_i0), (9, V.ptr out_b0 out_i0)] H0 = (
  inB x240 256 ∧
  ld H0 x_b0 (x_i0 + x240.toNat * 1) fun v0 =>
    asBool v0 fun t0 =>
      inB x240 256 ∧
        ld H0 y_b0 (y_i0 + x240.toNat * 1) fun v1 =>
          asBool v1 fun t1 =>
            CallsA prog holds_f0 (holds_a0 ++ [V.bool t0, V.bool t1] ++ holds_c0) H0 fun v2 H1 =>
              asBool v2 fun t2 =>
                inB x240 256 ∧
                  stK H1 out_b0 (out_i0 + x240.toNat * 1) [V.bool t2] fun H2 =>
                    J_impl_combined_6 D R K1 [(24, V.int IntKind.i64 x240), (2, V.fn holds_f0 holds_a0 holds_c0), (7, V.ptr x_b0 x_i0), (8, V.ptr y_b0 y_i0), (9, V.ptr out_b0 out_i0)] H2) := (hD _ _ _ _ _ _).trans (by kernel_rfl)
theorem J_impl_combined_3_eq (hD : IsD 40 [6] D) {out_b0 out_i0 : Nat} {H0 : AH} : J_impl_combined_3 D R [(9, V.ptr out_b0 out_i0)] H0 = (
  cellsK H0 out_b0 out_i0 256 fun l0 => CallsA prog impl_bytes256_class [V.agg l0] H0 fun v0 H1 => asSl v0 fun b0 i0 n0 c0 => R (V.sl b0 i0 n0 c0) H1) := (hD _ _ _ _ _ _).trans (by kernel_rfl)
theorem J_impl_combined_6_eq (hD : IsD 40 [6] D) {x240 : Int} {holds_f0 : Nat} {holds_a0 holds_c0 : List V} {x_b0 x_i0 y_b0 y_i0 out_b0 out_i0 : Nat} {H0 : AH} : J_impl_combined_6 D R K1 [(24, V.int IntKind.i64 x240), (2, V.fn holds_f0 holds_a0 holds_c0), (7, V.ptr x_b0 x_i0), (8, V.ptr y_b0 y_i0), (9, V.ptr out_b0 out_i0)] H0 = (
  K1 [(24, V.int IntKind.i64 (IntKind.i64.wrap (x240 + 1))), (2, V.fn holds_f0 holds_a0 holds_c0), (7, V.ptr x_b0 x_i0), (8, V.ptr y_b0 y_i0), (9, V.ptr out_b0 out_i0)] H0) := (hD _ _ _ _ _ _).trans (by kernel_rfl)

/-! ### spec_l1Class -/
noncomputable def spec_l1Class_b : Code := (Go.Proofs.Tryd.f71.body).getD .skip
noncomputable abbrev spec_l1Class_p (R : V → AH → Prop) : APost := postK prog (Go.Proofs.Tryd.f71.results.toList) R
def J_spec_l1Class_1 (D : Den) (R : V → AH → Prop) (env : Env) (H : AH) : Prop := D (cAt [1, 1, 1] spec_l1Class_b) [] [] env H (spec_l1Class_p R)
def L_spec_l1Class_2 (D : Den) (R : V → AH → Prop) (env : Env) (H : AH) (K1 : Env → AH → Prop) : Prop := D (cAt [1, 1, 0, 1, 0, 0] spec_l1Class_b) [(0, [3])] [4, 0, 3] env H (seqQ (fun e H => K1 (keepE e [4, 0, 3]) H) (blockQ 0 (seqQ (fun e H => J_spec_l1Class_1 D R (keepE e [3]) H) (spec_l1Class_p R))))
def J_spec_l1Class_3 (D : Den) (R : V → AH → Prop) (K1 : Env → AH → Prop) (env : Env) (H : AH) : Prop := D (cAt [1, 1, 0, 1, 0, 0, 1] spec_l1Class_b) [(0, [3])] [4, 0, 3] env H (seqQ (fun e H => K1 (keepE e [4, 0, 3]) H) (blockQ 0 (seqQ (fun e H => J_spec_l1Class_1 D R (keepE e [3]) H) (spec_l1Class_p R))))
def J_spec_l1Class_4 (D : Den) (R : V → AH → Prop) (K1 : Env → AH → Prop) (env : Env) (H : AH) : Prop := D (cAt [1, 1, 0, 1, 0, 0, 1, 1] spec_l1Class_b) [(0, [3])] [4, 0, 3] env H (seqQ (fun e H => K1 (keepE e [4, 0, 3]) H) (blockQ 0 (seqQ (fun e H => J_spec_l1Class_1 D R (keepE e [3]) H) (spec_l1Class_p R))))
def J_spec_l1Class_5 (D : Den) (R : V → AH → Prop) (K1 : Env → AH → Prop) (env : Env) (H : AH) : Prop := D (cAt [1, 1, 0, 1, 0, 0, 1, 0, 0, 1] spec_l1Class_b) [(1, [4, 0, 3]), (0, [3])] [4, 0, 3] env H (blockQ 1 (seqQ (fun e H => J_spec_l1Class_4 D R K1 (keepE e [4, 0, 3]) H) (seqQ (fun e H => K1 (keepE e [4, 0, 3]) H) (blockQ 0 (seqQ (fun e H => J_spec_l1Class_1 D R (keepE e [3]) H) (spec_l1Class_p R))))))
def J_spec_l1Class_6 (D : Den) (R : V → AH → Prop) (K1 : Env → AH → Prop) (env : Env) (H : AH) : Prop := D (cAt [1, 1, 0, 1, 0, 0, 1, 0, 0, 1, 1] spec_l1Class_b) [(1, [4, 0, 3]), (0, [3])] [4, 0, 3] env H (blockQ 1 (seqQ (fun e H => J_spec_l1Class_4 D R K1 (keepE e [4, 0, 3]) H) (seqQ (fun e H => K1 (keepE e [4, 0, 3]) H) (blockQ 0 (seqQ (fun e H => J_spec_l1Class_1 D R (keepE e [3]) H) (spec_l1Class_p R))))))
theorem spec_l1Class_in {args : List V} {H : AH} {R : V → AH → Prop} (h : ∀ D, IsD 44 [2] D → D spec_l1Class_b [] [] (argEnv 0 args) H (spec_l1Class_p R)) (hn : args.length ≤ 44 := by exact of_decide_eq_true rfl) : CallsA prog spec_l1Class args H R := callsD_of Go.Proofs.Tryd.func71 (by kernel_rfl) (by kernel_rfl) (by kernel_rfl) (enters_of Go.Proofs.Tryd.func71 (by kernel_rfl) rfl) hn h
theorem spec_l1Class_eq (hD : IsD 44 [2] D) {marks_b0 marks_i0 marks_n0 : Nat} {marks_c0 : Cap} {H0 : AH} : D spec_l1Class_b [] [] (argEnv 0 [V.sl marks_b0 marks_i0 marks_n0 marks_c0]) H0 (spec_l1Class_p R) = (
  LoopI (L_spec_l1Class_2 D R) [(4, V.int IntKind.i64 0), (0, V.sl marks_b0 marks_i0 marks_n0 marks_c0), (3, V.sl (List.length H0) 0 0 (Cap.ex 0))] (H0 ++ [Blk.cells [] false])) := (hD _ _ _ _ _ _).trans (by kernel_rfl)
theorem L_spec_l1Class_2_eq (hD : IsD 44 [2] D) {b0 : Int} {marks_b0 marks_i0 marks_n0 : Nat} {marks_c0 : Cap} {out_b0 out_i0 out_n0 : Nat} {out_c0 : Cap} {H0 : AH} : L_spec_l1Class_2 D R [(4, V.int IntKind.i64 b0), (0, V.sl marks_b0 marks_i0 marks_n0 marks_c0), (3, V.sl out_b0 out_i0 out_n0 out_c0)] H0 K1 = (
  splitB (decide (b0 < 256)) (J_spec_l1Class_3 D R K1 [(4, V.int IntKind.i64 b0), (0, V.sl marks_b0 marks_i0 marks_n0 marks_c0), (3, V.sl out_b0 out_i0 out_n0 out_c0)] H0)
  (J_spec_l1Class_1 D R [(3, V.sl out_b0 out_i0 out_n0 out_c0)] H0)) := (hD _ _ _ _ _ _).trans (by kernel_rfl)
theorem J_spec_l1Class_3_eq (hD : IsD 44 [2] D) {b0 : Int} {marks_b0 marks_i0 marks_n0 : Nat} {marks_c0 : Cap} {out_b0 out_i0 out_n0 : Nat} {out_c0 : Cap} {H0 : AH} : J_spec_l1Class_3 D R K1 [(4, V.int IntKind.i64 b0), (0, V.sl marks_b0 marks_i0 marks_n0 marks_c0), (3, V.sl out_b0 out_i0 out_n0 out_c0)] H0 = (
  inB b0 marks_n0 ∧
  ld H0 marks_b0 (marks_i0 + b0.toNat * 1) fun v0 =>
    asBool v0 fun t0 =>
      splitB (!t0) (J_spec_l1Class_4 D R K1 [(4, V.int IntKind.i64 b0), (0, V.sl marks_b0 marks_i0 marks_n0 marks_c0), (3, V.sl out_b0 out_i0 out_n0 out_c0)] H0)
        (J_spec_l1Class_5 D R K1 [(4, V.int IntKind.i64 b0), (0, V.sl marks_b0 marks_i0 marks_n0 marks_c0), (3, V.sl out_b0 out_i0 out_n0 out_c0)] H0)) := (hD _ _ _ _ _ _).trans (by kernel_rfl)
theorem J_spec_l1Class_1_eq (hD : IsD 44 [2] D) {out_b0 out_i0 out_n0 : Nat} {out_c0 : Cap} {H0 : AH} : J_spec_l1Class_1 D R [(3, V.sl out_b0 out_i0 out_n0 out_c0)] H0 = (
  R (V.sl out_b0 out_i0 out_n0 out_c0) H0) := (hD _ _ _ _ _ _).trans (by kernel_rfl)
theorem J_spec_l1Class_4_eq (hD : IsD 44 [2] D) {b0 : Int} {marks_b0 marks_i0 marks_n0 : Nat} {marks_c0 : Cap} {out_b0 out_i0 out_n0 : Nat} {out_c0 : Cap} {H0 : AH} : J_spec_l1Class_4 D R K1 [(4, V.int IntKind.i64 b0), (0, V.sl marks_b0 marks_i0 marks_n0 marks_c0), (3, V.sl out_b0 out_i0 out_n0 out_c0)] H0 = (
  K1 [(4, V.int IntKind.i64 (IntKind.i64.wrap (b0 + 1))), (0, V.sl marks_b0 marks_i0 marks_n0 marks_c0), (3, V.sl out_b0 out_i0 out_n0 out_c0)] H0) := (hD _ _ _ _ _ _).trans (by kernel_rfl)
theorem J_spec_l1Class_5_eq (hD : IsD 44 [2] D) {b0 : Int} {marks_b0 marks_i0 marks_n0 : Nat} {marks_c0 : Cap} {out_b0 out_i0 out_n0 : Nat} {out_c0 : Cap} {H0 : AH} : J_spec_l1Class_5 D R K1 [(4, V.int IntKind.i64 b0), (0, V.sl marks_b0 marks_i0 marks_n0 marks_c0), (3, V.sl out_b0 out_i0 out_n0 out_c0)] H0 = (
  splitB (decide ((↑out_n0 : Int) > 0))
  (inB (IntKind.i64.wrap ((↑out_n0 : Int) - 1)) out_n0 ∧
    ld H0 out_b0 (out_i0 + (IntKind.i64.wrap ((↑out_n0 : Int) - 1)).toNat * 2 + 1) fun v0 =>
      asInt IntKind.i64 v0 fun n0 =>
        J_spec_l1Class_6 D R K1
          [(29, V.bool (n0 == IntKind.i64.wrap (b0 - 1))), (4, V.int IntKind.i64 b0), (0, V.sl marks_b0 marks_i0 marks_n0 marks_c0), (3, V.sl out_b0 out_i0 out_n0 out_c0)] H0)
  (J_spec_l1Class_6 D R K1 [(29, V.bool false), (4, V.int IntKind.i64 b0), (0, V.sl marks_b0 marks_i0 marks_n0 marks_c0), (3, V.sl out_b0 out_i0 out_n0 out_c0)] H0)) := (hD _ _ _ _ _ _).trans (by kernel_rfl)
theorem J_spec_l1Class_6_eq (hD : IsD 44 [2] D) {x290 : Bool} {b0 : Int} {marks_b0 marks_i0 marks_n0 : Nat} {marks_c0 : Cap} {out_b0 out_i0 out_n0 : Nat} {out_c0 : Cap} {H0 : AH} : J_spec_l1Class_6 D R K1 [(29, V.bool x290), (4, V.int IntKind.i64 b0), (0, V.sl marks_b0 marks_i0 marks_n0 marks_c0), (3, V.sl out_b0 out_i0 out_n0 out_c0)] H0 = (
  splitB x290
  (inB (IntKind.i64.wrap ((↑out_n0 : Int) - 1)) out_n0 ∧
    stK H0 out_b0 (out_i0 + (IntKind.i64.wrap ((↑out_n0 : Int) - 1)).toNat * 2 + 1) [V.int IntKind.i64 b0] fun H1 =>
      J_spec_l1Class_4 D R K1 [(4, V.int IntKind.i64 b0), (0, V.sl marks_b0 marks_i0 marks_n0 marks_c0), (3, V.sl out_b0 out_i0 out_n0 out_c0)] H1)
  (cellsK (H0 ++ [Blk.cells [V.int IntKind.i64 b0, V.int IntKind.i64 b0] false]) (List.length H0) 0 2 fun l0 =>
    app (H0 ++ [Blk.cells [V.int IntKind.i64 b0, V.int IntKind.i64 b0] false]) 2 16 out_b0 out_i0 out_n0 out_c0 1 l0 fun b1 i0 n0 c0 H2 =>
      J_spec_l1Class_4 D R K1 [(4, V.int IntKind.i64 b0), (0, V.sl marks_b0 marks_i0 marks_n0 marks_c0), (3, V.sl b1 i0 n0 c0)] H2)) := (hD _ _ _ _ _ _).trans (by kernel_rfl)

/-! ### impl_places_without -/
noncomputable def impl_places_without_b : Code := (Go.Proofs.Tryd.f79.body).getD .skip
noncomputable abbrev impl_places_without_p (R : V → AH → Prop) : APost := postK prog (Go.Proofs.Tryd.f79.results.toList) R
def J_impl_places_without_1 (D : Den) (R : V → AH → Prop) (env : Env) (H : AH) : Prop := D (cAt [1, 1, 1] impl_places_without_b) [] [] env H (impl_places_without_p R)
def L_impl_places_without_2 (D : Den) (R : V → AH → Prop) (env : Env) (H : AH) (K1 : Env → AH → Prop) : Prop := D (cAt [1, 1, 0, 1, 0, 0] impl_places_without_b) [(0, [5])] [12, 11, 5, 0, 1] env H (seqQ (fun e H => K1 (keepE e [12, 11, 5, 0, 1]) H) (blockQ 0 (seqQ (fun e H => J_impl_places_without_1 D R (keepE e [5]) H) (impl_places_without_p R))))
def J_impl_places_without_3 (D : Den) (R : V → AH → Prop) (K1 : Env → AH → Prop) (env : Env) (H : AH) : Prop := D (cAt [1, 1, 0, 1, 0, 0, 1, 1] impl_places_without_b) [(0, [5])] [12, 11, 5, 0, 1] env H (seqQ (fun e H => K1 (keepE e [12, 11, 5, 0, 1]) H) (blockQ 0 (seqQ (fun e H => J_impl_places_without_1 D R (keepE e [5]) H) (impl_places_without_p R))))
def J_impl_places_without_4 (D : Den) (R : V → AH → Prop) (K1 : Env → AH → Prop) (env : Env) (H : AH) : Prop := D (cAt [1, 1, 0, 1, 0, 0, 1, 1, 1] impl_places_without_b) [(0, [5])] [12, 11, 5, 0, 1] env H (seqQ (fun e H => K1 (keepE e [12, 11, 5, 0, 1]) H) (blockQ 0 (seqQ (fun e H => J_impl_places_without_1 D R (keepE e [5]) H) (impl_places_without_p R))))
theorem impl_places_without_in {args : List V} {H : AH} {R : V → AH → Prop} (h : ∀ D, IsD 31 [4] D → D impl_places_without_b [] [] (argEnv 0 args) H (impl_places_without_p R)) (hn : args.length ≤ 31 := by exact of_decide_eq_true rfl) : CallsA prog impl_places_without args H R := callsD_of Go.Proofs.Tryd.func79 (by kernel_rfl) (by kernel_rfl) (by kernel_rfl) (enters_of Go.Proofs.Tryd.func79 (by kernel_rfl) rfl) hn h
theorem impl_places_without_eq (hD : IsD 31 [4] D) {p_b0 p_i0 p_n0 : Nat} {p_c0 : Cap} {q_b0 q_i0 q_n0 : Nat} {q_c0 : Cap} {H0 : AH} : D impl_places_without_b [] [] (argEnv 0 [V.sl p_b0 p_i0 p_n0 p_c0, V.sl q_b0 q_i0 q_n0 q_c0]) H0 (impl_places_without_p R) = (
  mkOk (↑p_n0 : Int) (↑p_n0 : Int) 1 ∧
  LoopI (L_impl_places_without_2 D R)
    [(12, V.int IntKind.i64 0), (11, V.int IntKind.i64 (↑p_n0 : Int)), (5, V.sl (List.length H0) 0 (↑p_n0 : Int).toNat (Cap.ex (↑p_n0 : Int).toNat)), (0, V.sl p_b0 p_i0 p_n0 p_c0),
      (1, V.sl q_b0 q_i0 q_n0 q_c0)]
    (H0 ++ [Blk.cells (rep (↑p_n0 : Int).toNat [V.bool false]) false])) := (hD _ _ _ _ _ _).trans (by kernel_rfl)
theorem L_impl_places_without_2_eq (hD : IsD 31 [4] D) {x120 x110 : Int} {out_b0 out_i0 out_n0 : Nat} {out_c0 : Cap} {p_b0 p_i0 p_n0 : Nat} {p_c0 : Cap} {q_b0 q_i0 q_n0 : Nat} {q_c0 : Cap} {H0 : AH} : L_impl_places_without_2 D R [(12, V.int IntKind.i64 x120), (11, V.int IntKind.i64 x110), (5, V.sl out_b0 out_i0 out_n0 out_c0), (0, V.sl p_b0 p_i0 p_n0 p_c0), (1, V.sl q_b0 q_i0 q_n0 q_c0)] H0 K1 = (
  splitB (decide (x120 < x110))
  (J_impl_places_without_3 D R K1
    [(12, V.int IntKind.i64 x120), (11, V.int IntKind.i64 x110), (5, V.sl out_b0 out_i0 out_n0 out_c0), (0, V.sl p_b0 p_i0 p_n0 p_c0), (1, V.sl q_b0 q_i0 q_n0 q_c0)] H0)
  (J_impl_places_without_1 D R [(5, V.sl out_b0 out_i0 out_n0 out_c0)] H0)) := (hD _ _ _ _ _ _).trans (by kernel_rfl)
theorem J_impl_places_without_3_eq (hD : IsD 31 [4] D) {x120 x110 : Int} {out_b0 out_i0 out_n0 : Nat} {out_c0 : Cap} {p_b0 p_i0 p_n0 : Nat} {p_c0 : Cap} {q_b0 q_i0 q_n0 : Nat} {q_c0 : Cap} {H0 : AH} : J_impl_places_without_3 D R K1 [(12, V.int IntKind.i64 x120), (11, V.int IntKind.i64 x110), (5, V.sl out_b0 out_i0 out_n0 out_c0), (0, V.sl p_b0 p_i0 p_n0 p_c0), (1, V.sl q_b0 q_i0 q_n0 q_c0)] H0 = (
  inB x120 p_n0 ∧
  ld H0 p_b0 (p_i0 + x120.toNat * 1) fun v0 =>
    asBool v0 fun t0 =>
      splitB t0
        (inB x120 q_n0 ∧
          ld H0 q_b0 (q_i0 + x120.toNat * 1) fun v1 =>
            asBool v1 fun t1 =>
              inB x120 out_n0 ∧
                stK H0 out_b0 (out_i0 + x120.toNat * 1) [V.bool !t1] fun H1 =>
                  J_impl_places_without_4 D R K1
                    [(12, V.int IntKind.i64 x120), (11, V.int IntKind.i64 x110), (5, V.sl out_b0 out_i0 out_n0 out_c0), (0, V.sl p_b0 p_i0 p_n0 p_c0), (1, V.sl q_b0 q_i0 q_n0 q_c0)] H1)
        (inB x120 out_n0 ∧
          stK H0 out_b0 (out_i0 + x120.toNat * 1) [V.bool false] fun H2 =>
            J_impl_places_without_4 D R K1
              [(12, V.int IntKind.i64 x120), (11, V.int IntKind.i64 x110), (5, V.sl out_b0 out_i0 out_n0 out_c0), (0, V.sl p_b0 p_i0 p_n0 p_c0), (1, V.sl q_b0 q_i0 q_n0 q_c0)] H2)) := (hD _ _ _ _ _ _).trans (by kernel_rfl)
theorem J_impl_places_without_1_eq (hD : IsD 31 [4] D) {out_b0 out_i0 out_n0 : Nat} {out_c0 : Cap} {H0 : AH} : J_impl_places_without_1 D R [(5, V.sl out_b0 out_i0 out_n0 out_c0)] H0 = (
  R (V.sl out_b0 out_i0 out_n0 out_c0) H0) := (hD _ _ _ _ _ _).trans (by kernel_rfl)
theorem J_impl_places_without_4_eq (hD : IsD 31 [4] D) {x120 x110 : Int} {out_b0 out_i0 out_n0 : Nat} {out_c0 : Cap} {p_b0 p_i0 p_n0 : Nat} {p_c0 : Cap} {q_b0 q_i0 q_n0 : Nat} {q_c0 : Cap} {H0 : AH} : J_impl_places_without_4 D R K1 [(12, V.int IntKind.i64 x120), (11, V.int IntKind.i64 x110), (5, V.sl out_b0 out_i0 out_n0 out_c0), (0, V.sl p_b0 p_i0 p_n0 p_c0), (1, V.sl q_b0 q_i0 q_n0 q_c0)] H0 = (
  K1 [(12, V.int IntKind.i64 (IntKind.i64.wrap (x120 + 1))), (11, V.int IntKind.i64 x110), (5, V.sl out_b0 out_i0 out_n0 out_c0), (0, V.sl p_b0 p_i0 p_n0 p_c0), (1, V.sl q_b0 q_i0 q_n0 q_c0)] H0) := (hD _ _ _ _ _ _).trans (by kernel_rfl)

/-! ### impl_places_with -/
noncomputable def impl_places_with_b : Code := (Go.Proofs.Tryd.f65.body).getD .skip
noncomputable abbrev impl_places_with_p (R : V → AH → Prop) : APost := postK prog (Go.Proofs.Tryd.f65.results.toList) R
def J_impl_places_with_1 (D : Den) (R : V → AH → Prop) (env : Env) (H : AH) : Prop := D (cAt [1, 1, 1] impl_places_with_b) [] [] env H (impl_places_with_p R)
def L_impl_places_with_2 (D : Den) (R : V → AH → Prop) (env : Env) (H : AH) (K1 : Env → AH → Prop) : Prop := D (cAt [1, 1, 0, 1, 0, 0] impl_places_with_b) [(0, [5])] [12, 11, 5, 0, 1] env H (seqQ (fun e H => K1 (keepE e [12, 11, 5, 0, 1]) H) (blockQ 0 (seqQ (fun e H => J_impl_places_with_1 D R (keepE e [5]) H) (impl_places_with_p R))))
def J_impl_places_with_3 (D : Den) (R : V → AH → Prop) (K1 : Env → AH → Prop) (env : Env) (H : AH) : Prop := D (cAt [1, 1, 0, 1, 0, 0, 1, 1] impl_places_with_b) [(0, [5])] [12, 11, 5, 0, 1] env H (seqQ (fun e H => K1 (keepE e [12, 11, 5, 0, 1]) H) (blockQ 0 (seqQ (fun e H => J_impl_places_with_1 D R (keepE e [5]) H) (impl_places_with_p R))))
def J_impl_places_with_4 (D : Den) (R : V → AH → Prop) (K1 : Env → AH → Prop) (env : Env) (H : AH) : Prop := D (cAt [1, 1, 0, 1, 0, 0, 1, 1, 1] impl_places_with_b) [(0, [5])] [12, 11, 5, 0, 1] env H (seqQ (fun e H => K1 (keepE e [12, 11, 5, 0, 1]) H) (blockQ 0 (seqQ (fun e H => J_impl_places_with_1 D R (keepE e [5]) H) (impl_places_with_p R))))
theorem impl_places_with_in {args : List V} {H : AH} {R : V → AH → Prop} (h : ∀ D, IsD 30 [4] D → D impl_places_with_b [] [] (argEnv 0 args) H (impl_places_with_p R)) (hn : args.length ≤ 30 := by exact of_decide_eq_true rfl) : CallsA prog impl_places_with args H R := callsD_of Go.Proofs.Tryd.func65 (by kernel_rfl) (by kernel_rfl) (by kernel_rfl) (enters_of Go.Proofs.Tryd.func65 (by kernel_rfl) rfl) hn h
theorem impl_places_with_eq (hD : IsD 30 [4] D) {p_b0 p_i0 p_n0 : Nat} {p_c0 : Cap} {q_b0 q_i0 q_n0 : Nat} {q_c0 : Cap} {H0 : AH} : D impl_places_with_b [] [] (argEnv 0 [V.sl p_b0 p_i0 p_n0 p_c0, V.sl q_b0 q_i0 q_n0 q_c0]) H0 (impl_places_with_p R) = (
  mkOk (↑p_n0 : Int) (↑p_n0 : Int) 1 ∧
  LoopI (L_impl_places_with_2 D R)
    [(12, V.int IntKind.i64 0), (11, V.int IntKind.i64 (↑p_n0 : Int)), (5, V.sl (List.length H0) 0 (↑p_n0 : Int).toNat (Cap.ex (↑p_n0 : Int).toNat)), (0, V.sl p_b0 p_i0 p_n0 p_c0),
      (1, V.sl q_b0 q_i0 q_n0 q_c0)]
    (H0 ++ [Blk.cells (rep (↑p_n0 : Int).toNat [V.bool false]) false])) := (hD _ _ _ _ _ _).trans (by kernel_rfl)
theorem L_impl_places_with_2_eq (hD : IsD 30 [4] D) {x120 x110 : Int} {out_b0 out_i0 out_n0 : Nat} {out_c0 : Cap} {p_b0 p_i0 p_n0 : Nat} {p_c0 : Cap} {q_b0 q_i0 q_n0 : Nat} {q_c0 : Cap} {H0 : AH} : L_impl_places_with_2 D R [(12, V.int IntKind.i64 x120), (11, V.int IntKind.i64 x110), (5, V.sl out_b0 out_i0 out_n0 out_c0), (0, V.sl p_b0 p_i0 p_n0 p_c0), (1, V.sl q_b0 q_i0 q_n0 q_c0)] H0 K1 = (
  splitB (decide (x120 < x110))
  (J_impl_places_with_3 D R K1
    [(12, V.int IntKind.i64 x120), (11, V.int IntKind.i64 x110), (5, V.sl out_b0 out_i0 out_n0 out_c0), (0, V.sl p_b0 p_i0 p_n0 p_c0), (1, V.sl q_b0 q_i0 q_n0 q_c0)] H0)
  (J_impl_places_with_1 D R [(5, V.sl out_b0 out_i0 out_n0 out_c0)] H0)) := (hD _ _ _ _ _ _).trans (by kernel_rfl)
theorem J_impl_places_with_3_eq (hD : IsD 30 [4] D) {x120 x110 : Int} {out_b0 out_i0 out_n0 : Nat} {out_c0 : Cap} {p_b0 p_i0 p_n0 : Nat} {p_c0 : Cap} {q_b0 q_i0 q_n0 : Nat} {q_c0 : Cap} {H0 : AH} : J_impl_places_with_3 D R K1 [(12, V.int IntKind.i64 x120), (11, V.int IntKind.i64 x110), (5, V.sl out_b0 out_i0 out_n0 out_c0), (0, V.sl p_b0 p_i0 p_n0 p_c0), (1, V.sl q_b0 q_i0 q_n0 q_c0)] H0 = (
  inB x120 p_n0 ∧
  ld H0 p_b0 (p_i0 + x120.toNat * 1) fun v0 =>
    asBool v0 fun t0 =>
      splitB t0
        (inB x120 out_n0 ∧
          stK H0 out_b0 (out_i0 + x120.toNat * 1) [V.bool true] fun H1 =>
            J_impl_places_with_4 D R K1
              [(12, V.int IntKind.i64 x120), (11, V.int IntKind.i64 x110), (5, V.sl out_b0 out_i0 out_n0 out_c0), (0, V.sl p_b0 p_i0 p_n0 p_c0), (1, V.sl q_b0 q_i0 q_n0 q_c0)] H1)
        (inB x120 q_n0 ∧
          ld H0 q_b0 (q_i0 + x120.toNat * 1) fun v1 =>
            asBool v1 fun t1 =>
              inB x120 out_n0 ∧
                stK H0 out_b0 (out_i0 + x120.toNat * 1) [V.bool t1] fun H2 =>
                  J_impl_places_with_4 D R K1
                    [(12, V.int IntKind.i64 x120), (11, V.int IntKind.i64 x110), (5, V.sl out_b0 out_i0 out_n0 out_c0), (0, V.sl p_b0 p_i0 p_n0 p_c0), (1, V.sl q_b0 q_i0 q_n0 q_c0)] H2)) := (hD _ _ _ _ _ _).trans (by kernel_rfl)
theorem J_impl_places_with_1_eq (hD : IsD 30 [4] D) {out_b0 out_i0 out_n0 : Nat} {out_c0 : Cap} {H0 : AH} : J_impl_places_with_1 D R [(5, V.sl out_b0 out_i0 out_n0 out_c0)] H0 = (
  R (V.sl out_b0 out_i0 out_n0 out_c0) H0) := (hD _ _ _ _ _ _).trans (by kernel_rfl)
theorem J_impl_places_with_4_eq (hD : IsD 30 [4] D) {x120 x110 : Int} {out_b0 out_i0 out_n0 : Nat} {out_c0 : Cap} {p_b0 p_i0 p_n0 : Nat} {p_c0 : Cap} {q_b0 q_i0 q_n0 : Nat} {q_c0 : Cap} {H0 : AH} : J_impl_places_with_4 D R K1 [(12, V.int IntKind.i64 x120), (11, V.int IntKind.i64 x110), (5, V.sl out_b0 out_i0 out_n0 out_c0), (0, V.sl p_b0 p_i0 p_n0 p_c0), (1, V.sl q_b0 q_i0 q_n0 q_c0)] H0 = (
  K1 [(12, V.int IntKind.i64 (IntKind.i64.wrap (x120 + 1))), (11, V.int IntKind.i64 x110), (5, V.sl out_b0 out_i0 out_n0 out_c0), (0, V.sl p_b0 p_i0 p_n0 p_c0), (1, V.sl q_b0 q_i0 q_n0 q_c0)] H0) := (hD _ _ _ _ _ _).trans (by kernel_rfl)

/-! ### spec_ClassOf -/
noncomputable def spec_ClassOf_b : Code := (Go.Proofs.Tryd.f50.body).getD .skip
noncomputable abbrev spec_ClassOf_p (R : V → AH → Prop) : APost := postK prog (Go.Proofs.Tryd.f50.results.toList) R
def J_spec_ClassOf_1 (D : Den) (R : V → AH → Prop) (env : Env) (H : AH) : Prop := D (cAt [1, 1, 1] spec_ClassOf_b) [] [] env H (spec_ClassOf_p R)
def L_spec_ClassOf_2 (D : Den) (R : V → AH → Prop) (env : Env) (H : AH) (K1 : Env → AH → Prop) : Prop := D (cAt [1, 1, 0, 1, 0, 0] spec_ClassOf_b) [(0, [3])] [4, 3, 0] env H (seqQ (fun e H => K1 (keepE e [4, 3, 0]) H) (blockQ 0 (seqQ (fun e H => J_spec_ClassOf_1 D R (keepE e [3]) H) (spec_ClassOf_p R))))
def J_spec_ClassOf_3 (D : Den) (R : V → AH → Prop) (K1 : Env → AH → Prop) (env : Env) (H : AH) : Prop := D (cAt [1, 1, 0, 1, 0, 0, 1] spec_ClassOf_b) [(0, [3])] [4, 3, 0] env H (seqQ (fun e H => K1 (keepE e [4, 3, 0]) H) (blockQ 0 (seqQ (fun e H => J_spec_ClassOf_1 D R (keepE e [3]) H) (spec_ClassOf_p R))))
def J_spec_ClassOf_4 (D : Den) (R : V → AH → Prop) (K1 : Env → AH → Prop) (env : Env) (H : AH) : Prop := D (cAt [1, 1, 0, 1, 0, 0, 1, 1] spec_ClassOf_b) [(0, [3])] [4, 3, 0] env H (seqQ (fun e H => K1 (keepE e [4, 3, 0]) H) (blockQ 0 (seqQ (fun e H => J_spec_ClassOf_1 D R (keepE e [3]) H) (spec_ClassOf_p R))))
theorem spec_ClassOf_in {args : List V} {H : AH} {R : V → AH → Prop} (h : ∀ D, IsD 19 [2] D → D spec_ClassOf_b [] [] (argEnv 0 args) H (spec_ClassOf_p R)) (hn : args.length ≤ 19 := by exact of_decide_eq_true rfl) : CallsA prog spec_ClassOf args H R := callsD_of Go.Proofs.Tryd.func50 (by kernel_rfl) (by kernel_rfl) (by kernel_rfl) (enters_of Go.Proofs.Tryd.func50 (by kernel_rfl) rfl) hn h
theorem spec_ClassOf_eq (hD : IsD 19 [2] D) {bytes0 : List UInt8} {H0 : AH} : D spec_ClassOf_b [] [] (argEnv 0 [V.str bytes0]) H0 (spec_ClassOf_p R) = (
  mkOk 256 256 1 ∧
  LoopI (L_spec_ClassOf_2 D R) [(4, V.int IntKind.i64 0), (3, V.sl (List.length H0) 0 256 (Cap.ex 256)), (0, V.str bytes0)] (H0 ++ [Blk.cells (List.replicate 256 (V.bool false)) false])) := (hD _ _ _ _ _ _).trans (by kernel_rfl)
theorem L_spec_ClassOf_2_eq (hD : IsD 19 [2] D) {i0 : Int} {marks_b0 marks_i0 marks_n0 : Nat} {marks_c0 : Cap} {bytes0 : List UInt8} {H0 : AH} : L_spec_ClassOf_2 D R [(4, V.int IntKind.i64 i0), (3, V.sl marks_b0 marks_i0 marks_n0 marks_c0), (0, V.str bytes0)] H0 K1 = (
  splitB (decide (i0 < (↑bytes0.length : Int))) (J_spec_ClassOf_3 D R K1 [(4, V.int IntKind.i64 i0), (3, V.sl marks_b0 marks_i0 marks_n0 marks_c0), (0, V.str bytes0)] H0)
  (J_spec_ClassOf_1 D R [(3, V.sl marks_b0 marks_i0 marks_n0 marks_c0)] H0)) := (hD _ _ _ _ _ _).trans (by kernel_rfl)
theorem J_spec_ClassOf_3_eq (hD : IsD 19 [2] D) {i0 : Int} {marks_b0 marks_i0 marks_n0 : Nat} {marks_c0 : Cap} {bytes0 : List UInt8} {H0 : AH} : J_spec_ClassOf_3 D R K1 [(4, V.int IntKind.i64 i0), (3, V.sl marks_b0 marks_i0 marks_n0 marks_c0), (0, V.str bytes0)] H0 = (
  inB i0 bytes0.length ∧
  inB (↑(byteAt bytes0 i0).toNat : Int) marks_n0 ∧
    stK H0 marks_b0 (marks_i0 + (↑(byteAt bytes0 i0).toNat : Int).toNat * 1) [V.bool true] fun H1 =>
      J_spec_ClassOf_4 D R K1 [(4, V.int IntKind.i64 i0), (3, V.sl marks_b0 marks_i0 marks_n0 marks_c0), (0, V.str bytes0)] H1) := (hD _ _ _ _ _ _).trans (by kernel_rfl)
theorem J_spec_ClassOf_1_eq (hD : IsD 19 [2] D) {marks_b0 marks_i0 marks_n0 : Nat} {marks_c0 : Cap} {H0 : AH} : J_spec_ClassOf_1 D R [(3, V.sl marks_b0 marks_i0 marks_n0 marks_c0)] H0 = (
  CallsA prog spec_l1Class [V.sl marks_b0 marks_i0 marks_n0 marks_c0] H0 fun v0 H1 => asSl v0 fun b0 i0 n0 c0 => R (V.sl b0 i0 n0 c0) H1) := (hD _ _ _ _ _ _).trans (by kernel_rfl)
theorem J_spec_ClassOf_4_eq (hD : IsD 19 [2] D) {i0 : Int} {marks_b0 marks_i0 marks_n0 : Nat} {marks_c0 : Cap} {bytes0 : List UInt8} {H0 : AH} : J_spec_ClassOf_4 D R K1 [(4, V.int IntKind.i64 i0), (3, V.sl marks_b0 marks_i0 marks_n0 marks_c0), (0, V.str bytes0)] H0 = (
  K1 [(4, V.int IntKind.i64 (IntKind.i64.wrap (i0 + 1))), (3, V.sl marks_b0 marks_i0 marks_n0 marks_c0), (0, V.str bytes0)] H0) := (hD _ _ _ _ _ _).trans (by kernel_rfl)

/-! ### impl_places_isEmpty -/
noncomputable def impl_places_isEmpty_b : Code := (Go.Proofs.Tryd.f78.body).getD .skip
noncomputable abbrev impl_places_isEmpty_p (R : V → AH → Prop) : APost := postK prog (Go.Proofs.Tryd.f78.results.toList) R
def J_impl_places_isEmpty_1 (D : Den) (R : V → AH → Prop) (env : Env) (H : AH) : Prop := D (cAt [1, 1] impl_places_isEmpty_b) [] [] env H (impl_places_isEmpty_p R)
def L_impl_places_isEmpty_2 (D : Den) (R : V → AH → Prop) (env : Env) (H : AH) (K1 : Env → AH → Prop) : Prop := D (cAt [1, 0, 1, 0, 0] impl_places_isEmpty_b) [(0, [])] [6, 5, 7] env H (seqQ (fun e H => K1 (keepE e [6, 5, 7]) H) (blockQ 0 (seqQ (fun e H => J_impl_places_isEmpty_1 D R (keepE e []) H) (impl_places_isEmpty_p R))))
def J_impl_places_isEmpty_3 (D : Den) (R : V → AH → Prop) (K1 : Env → AH → Prop) (env : Env) (H : AH) : Prop := D (cAt [1, 0, 1, 0, 0, 1, 1] impl_places_isEmpty_b) [(0, [])] [6, 5, 7] env H (seqQ (fun e H => K1 (keepE e [6, 5, 7]) H) (blockQ 0 (seqQ (fun e H => J_impl_places_isEmpty_1 D R (keepE e []) H) (impl_places_isEmpty_p R))))
def J_impl_places_isEmpty_4 (D : Den) (R : V → AH → Prop) (K1 : Env → AH → Prop) (env : Env) (H : AH) : Prop := D (cAt [1, 0, 1, 0, 0, 1, 1, 1] impl_places_isEmpty_b) [(0, [])] [6, 5, 7] env H (seqQ (fun e H => K1 (keepE e [6, 5, 7]) H) (blockQ 0 (seqQ (fun e H => J_impl_places_isEmpty_1 D R (keepE e []) H) (impl_places_isEmpty_p R))))
theorem impl_places_isEmpty_in {args : List V} {H : AH} {R : V → AH → Prop} (h : ∀ D, IsD 13 [2] D → D impl_places_isEmpty_b [] [] (argEnv 0 args) H (impl_places_isEmpty_p R)) (hn : args.length ≤ 13 := by exact of_decide_eq_true rfl) : CallsA prog impl_places_isEmpty args H R := callsD_of Go.Proofs.Tryd.func78 (by kernel_rfl) (by kernel_rfl) (by kernel_rfl) (enters_of Go.Proofs.Tryd.func78 (by kernel_rfl) rfl) hn h
theorem impl_places_isEmpty_eq (hD : IsD 13 [2] D) {p_b0 p_i0 p_n0 : Nat} {p_c0 : Cap} {H0 : AH} : D impl_places_isEmpty_b [] [] (argEnv 0 [V.sl p_b0 p_i0 p_n0 p_c0]) H0 (impl_places_isEmpty_p R) = (
  LoopI (L_impl_places_isEmpty_2 D R) [(6, V.int IntKind.i64 (↑p_n0 : Int)), (5, V.sl p_b0 p_i0 p_n0 p_c0), (7, V.int IntKind.i64 0)] H0) := (hD _ _ _ _ _ _).trans (by kernel_rfl)
theorem L_impl_places_isEmpty_2_eq (hD : IsD 13 [2] D) {x60 : Int} {x5_b0 x5_i0 x5_n0 : Nat} {x5_c0 : Cap} {x70 : Int} {H0 : AH} : L_impl_places_isEmpty_2 D R [(6, V.int IntKind.i64 x60), (5, V.sl x5_b0 x5_i0 x5_n0 x5_c0), (7, V.int IntKind.i64 x70)] H0 K1 = (
  splitB (decide (x70 < x60)) (J_impl_places_isEmpty_3 D R K1 [(5, V.sl x5_b0 x5_i0 x5_n0 x5_c0), (6, V.int IntKind.i64 x60), (7, V.int IntKind.i64 x70)] H0)
  (J_impl_places_isEmpty_1 D R [] H0)) := (hD _ _ _ _ _ _).trans (by kernel_rfl)
theorem J_impl_places_isEmpty_3_eq (hD : IsD 13 [2] D) {x5_b0 x5_i0 x5_n0 : Nat} {x5_c0 : Cap} {x60 x70 : Int} {H0 : AH} : J_impl_places_isEmpty_3 D R K1 [(5, V.sl x5_b0 x5_i0 x5_n0 x5_c0), (6, V.int IntKind.i64 x60), (7, V.int IntKind.i64 x70)] H0 = (
  inB x70 x5_n0 ∧
  ld H0 x5_b0 (x5_i0 + x70.toNat * 1) fun v0 =>
    asBool v0 fun t0 =>
      splitB t0 (R (V.bool false) H0) (J_impl_places_isEmpty_4 D R K1 [(7, V.int IntKind.i64 x70), (6, V.int IntKind.i64 x60), (5, V.sl x5_b0 x5_i0 x5_n0 x5_c0)] H0)) := (hD _ _ _ _ _ _).trans (by kernel_rfl)
theorem J_impl_places_isEmpty_1_eq (hD : IsD 13 [2] D) {H0 : AH} : J_impl_places_isEmpty_1 D R [] H0 = (
  R (V.bool true) H0) := (hD _ _ _ _ _ _).trans (by kernel_rfl)
theorem J_impl_places_isEmpty_4_eq (hD : IsD 13 [2] D) {x70 x60 : Int} {x5_b0 x5_i0 x5_n0 : Nat} {x5_c0 : Cap} {H0 : AH} : J_impl_places_isEmpty_4 D R K1 [(7, V.int IntKind.i64 x70), (6, V.int IntKind.i64 x60), (5, V.sl x5_b0 x5_i0 x5_n0 x5_c0)] H0 = (
  K1 [(6, V.int IntKind.i64 x60), (5, V.sl x5_b0 x5_i0 x5_n0 x5_c0), (7, V.int IntKind.i64 (IntKind.i64.wrap (x70 + 1)))] H0) := (hD _ _ _ _ _ _).trans (by kernel_rfl)

/-! ### spec_l1Rd_oddClass -/
noncomputable def spec_l1Rd_oddClass_b : Code := (Go.Proofs.Tryd.f51.body).getD .skip
noncomputable abbrev spec_l1Rd_oddClass_p (R : V → AH → Prop) : APost := postK prog (Go.Proofs.Tryd.f51.results.toList) R
def J_spec_l1Rd_oddClass_1 (D : Den) (R : V → AH → Prop) (env : Env) (H : AH) : Prop := D (cAt [1, 1, 1] spec_l1Rd_oddClass_b) [] [] env H (spec_l1Rd_oddClass_p R)
theorem spec_l1Rd_oddClass_in {args : List V} {H : AH} {R : V → AH → Prop} (h : ∀ D, IsD 33 [2] D → D spec_l1Rd_oddClass_b [] [] (argEnv 0 args) H (spec_l1Rd_oddClass_p R)) (hn : args.length ≤ 33 := by exact of_decide_eq_true rfl) : CallsA prog spec_l1Rd_oddClass args H R := callsD_of Go.Proofs.Tryd.func51 (by kernel_rfl) (by kernel_rfl) (by kernel_rfl) (enters_of Go.Proofs.Tryd.func51 (by kernel_rfl) rfl) hn h
theorem spec_l1Rd_oddClass_eq (hD : IsD 33 [2] D) {r_b0 r_i0 : Nat} {H0 : AH} : D spec_l1Rd_oddClass_b [] [] (argEnv 0 [V.ptr r_b0 r_i0]) H0 (spec_l1Rd_oddClass_p R) = (
  CallsA prog spec_l1Rd_class [V.ptr r_b0 r_i0] H0 fun v0 H1 =>
  asSl v0 fun b0 i0 n0 c0 =>
    CallsA prog spec_l1Rd_below [V.ptr r_b0 r_i0, V.int IntKind.i64 24] H1 fun v1 H2 =>
      asInt IntKind.i64 v1 fun n1 =>
        splitB (n1 == 0)
          (CallsA prog spec_l1Rd_off [V.ptr r_b0 r_i0, V.int IntKind.i64 0, V.int IntKind.i64 255] H2 fun v2 H3 =>
            asInt IntKind.i64 v2 fun n2 =>
              CallsA prog spec_l1Rd_off [V.ptr r_b0 r_i0, V.int IntKind.i64 0, V.int IntKind.i64 255] H3 fun v3 H4 =>
                asInt IntKind.i64 v3 fun n3 =>
                  cellsK (H4 ++ [Blk.cells [V.int IntKind.i64 n2, V.int IntKind.i64 n3] false]) (List.length H4) 0 2 fun l0 =>
                    app (H4 ++ [Blk.cells [V.int IntKind.i64 n2, V.int IntKind.i64 n3] false]) 2 16 b0 i0 n0 c0 1 l0 fun b1 i1 n4 c1 H5 =>
                      J_spec_l1Rd_oddClass_1 D R [(3, V.sl b1 i1 n4 c1)] H5)
          (splitB (n1 == 1)
            (splitB (decide ((↑n0 : Int) > 0))
              (CallsA prog spec_l1Rd_off [V.ptr r_b0 r_i0, V.int IntKind.i64 0, V.int IntKind.i64 255] H2 fun v4 H6 =>
                asInt IntKind.i64 v4 fun n5 => inB 0 n0 ∧ stK H6 b0 (i0 + 1) [V.int IntKind.i64 n5] fun H7 => J_spec_l1Rd_oddClass_1 D R [(3, V.sl b0 i0 n0 c0)] H7)
              (J_spec_l1Rd_oddClass_1 D R [(3, V.sl b0 i0 n0 c0)] H2))
            (splitB (n1 == 2) (J_spec_l1Rd_oddClass_1 D R [(3, V.sl (List.length H2) 0 1 (Cap.ex 1))] (H2 ++ [Blk.cells [V.int IntKind.i64 0, V.int IntKind.i64 255] false]))
              (J_spec_l1Rd_oddClass_1 D R [(3, V.sl b0 i0 n0 c0)] H2)))) := (hD _ _ _ _ _ _).trans (by kernel_rfl)
theorem J_spec_l1Rd_oddClass_1_eq (hD : IsD 33 [2] D) {c_b0 c_i0 c_n0 : Nat} {c_c0 : Cap} {H0 : AH} : J_spec_l1Rd_oddClass_1 D R [(3, V.sl c_b0 c_i0 c_n0 c_c0)] H0 = (
  R (V.sl c_b0 c_i0 c_n0 c_c0) H0) := (hD _ _ _ _ _ _).trans (by kernel_rfl)

/-! ### spec_l1Rd_near -/
noncomputable def spec_l1Rd_near_b : Code := (Go.Proofs.Tryd.f39.body).getD .skip
noncomputable abbrev spec_l1Rd_near_p (R : V → AH → Prop) : APost := postK prog (Go.Proofs.Tryd.f39.results.toList) R
def J_spec_l1Rd_near_1 (D : Den) (R : V → AH → Prop) (env : Env) (H : AH) : Prop := D (cAt [1, 1] spec_l1Rd_near_b) [] [] env H (spec_l1Rd_near_p R)
def J_spec_l1Rd_near_2 (D : Den) (R : V → AH → Prop) (env : Env) (H : AH) : Prop := D (cAt [1, 1, 1] spec_l1Rd_near_b) [] [] env H (spec_l1Rd_near_p R)
theorem spec_l1Rd_near_in {args : List V} {H : AH} {R : V → AH → Prop} (h : ∀ D, IsD 31 [6] D → D spec_l1Rd_near_b [] [] (argEnv 0 args) H (spec_l1Rd_near_p R)) (hn : args.length ≤ 31 := by exact of_decide_eq_true rfl) : CallsA prog spec_l1Rd_near args H R := callsD_of Go.Proofs.Tryd.func39 (by kernel_rfl) (by kernel_rfl) (by kernel_rfl) (enters_of Go.Proofs.Tryd.func39 (by kernel_rfl) rfl) hn h
theorem spec_l1Rd_near_eq (hD : IsD 31 [6] D) {r_b0 r_i0 : Nat} {low0 high0 : Int} {H0 : AH} : D spec_l1Rd_near_b [] [] (argEnv 0 [V.ptr r_b0 r_i0, V.int IntKind.i64 low0, V.int IntKind.i64 high0]) H0 (spec_l1Rd_near_p R) = (
  CallsA prog spec_l1Rd_below [V.ptr r_b0 r_i0, V.int IntKind.i64 8] H0 fun v0 H1 =>
  asInt IntKind.i64 v0 fun n0 =>
    splitB (n0 == 0) (R (V.int IntKind.i64 low0) H1)
      (splitB (n0 == 1) (R (V.int IntKind.i64 high0) H1) (J_spec_l1Rd_near_1 D R [(2, V.int IntKind.i64 high0), (0, V.ptr r_b0 r_i0), (1, V.int IntKind.i64 low0)] H1))) := (hD _ _ _ _ _ _).trans (by kernel_rfl)
theorem J_spec_l1Rd_near_1_eq (hD : IsD 31 [6] D) {high0 : Int} {r_b0 r_i0 : Nat} {low0 : Int} {H0 : AH} : J_spec_l1Rd_near_1 D R [(2, V.int IntKind.i64 high0), (0, V.ptr r_b0 r_i0), (1, V.int IntKind.i64 low0)] H0 = (
  splitB (decide (high0 < low0)) (R (V.int IntKind.i64 low0) H0) (J_spec_l1Rd_near_2 D R [(0, V.ptr r_b0 r_i0), (2, V.int IntKind.i64 high0), (1, V.int IntKind.i64 low0)] H0)) := (hD _ _ _ _ _ _).trans (by kernel_rfl)
theorem J_spec_l1Rd_near_2_eq (hD : IsD 31 [6] D) {r_b0 r_i0 : Nat} {high0 low0 : Int} {H0 : AH} : J_spec_l1Rd_near_2 D R [(0, V.ptr r_b0 r_i0), (2, V.int IntKind.i64 high0), (1, V.int IntKind.i64 low0)] H0 = (
  CallsA prog spec_l1Rd_word [V.ptr r_b0 r_i0] H0 fun v0 H1 =>
  asInt IntKind.u64 v0 fun n0 =>
    nn 1 ∧
      nz (IntKind.u64.wrap (IntKind.i64.wrap (IntKind.i64.wrap (high0 - low0) + 1))) ∧
        R (V.int IntKind.i64 (IntKind.i64.wrap (low0 + IntKind.i64.wrap ((shrI IntKind.u64 n0 1).tmod (IntKind.u64.wrap (IntKind.i64.wrap (IntKind.i64.wrap (high0 - low0) + 1))))))) H1) := (hD _ _ _ _ _ _).trans (by kernel_rfl)

/-! ### impl_Nullable -/
noncomputable def impl_Nullable_b : Code := (Go.Proofs.Tryd.f11.body).getD .skip
noncomputable abbrev impl_Nullable_p (R : V → AH → Prop) : APost := postK prog (Go.Proofs.Tryd.f11.results.toList) R
def J_impl_Nullable_1 (D : Den) (R : V → AH → Prop) (env : Env) (H : AH) : Prop := D (cAt [1, 1] impl_Nullable_b) [] [] env H (impl_Nullable_p R)
theorem impl_Nullable_in {args : List V} {H : AH} {R : V → AH → Prop} (h : ∀ D, IsD 11 [2] D → D impl_Nullable_b [] [] (argEnv 0 args) H (impl_Nullable_p R)) (hn : args.length ≤ 11 := by exact of_decide_eq_true rfl) : CallsA prog impl_Nullable args H R := callsD_of Go.Proofs.Tryd.func11 (by kernel_rfl) (by kernel_rfl) (by kernel_rfl) (enters_of Go.Proofs.Tryd.func11 (by kernel_rfl) rfl) hn h
theorem impl_Nullable_eq (hD : IsD 11 [2] D) {x_b0 x_i0 x_n0 : Nat} {x_c0 : Cap} {H0 : AH} : D impl_Nullable_b [] [] (argEnv 0 [V.agg [V.sl x_b0 x_i0 x_n0 x_c0]]) H0 (impl_Nullable_p R) = (
  ld (H0 ++ [Blk.cells [V.sl x_b0 x_i0 x_n0 x_c0] false]) (List.length H0) 0 fun v0 =>
  asSl v0 fun b0 i0 n0 c0 =>
    CallsA prog impl_RxOk [V.agg [V.sl b0 i0 n0 c0]] (H0 ++ [Blk.cells [V.sl x_b0 x_i0 x_n0 x_c0] false]) fun v1 H1 =>
      asBool v1 fun t0 =>
        splitB t0
          (ld H1 (List.length H0) 0 fun v2 =>
            asSl v2 fun b1 i1 n1 c1 =>
              ld H1 (List.length H0) 0 fun v3 =>
                asSl v3 fun b2 i2 n2 c2 =>
                  CallsA prog impl_Rx_last [V.agg [V.sl b2 i2 n2 c2]] H1 fun v4 H2 =>
                    asInt IntKind.i64 v4 fun n3 =>
                      (H2.cell (List.length H0) 0 = some (V.sl b1 i1 n1 c1) ∧ True) ∧
                        CallsA prog impl_Rx_nullable [V.agg [V.sl b1 i1 n1 c1], V.int IntKind.i64 n3] H2 fun v5 H3 => asBool v5 fun t1 => J_impl_Nullable_1 D R [(2, V.bool t1)] H3)
          (J_impl_Nullable_1 D R [(2, V.bool false)] H1)) := (hD _ _ _ _ _ _).trans (by kernel_rfl)
theorem J_impl_Nullable_1_eq (hD : IsD 11 [2] D) {x20 : Bool} {H0 : AH} : J_impl_Nullable_1 D R [(2, V.bool x20)] H0 = (
  R (V.bool x20) H0) := (hD _ _ _ _ _ _).trans (by kernel_rfl)

/-! ### impl_Shortest -/
noncomputable def impl_Shortest_b : Code := (Go.Proofs.Tryd.f10.body).getD .skip
noncomputable abbrev impl_Shortest_p (R : V → AH → Prop) : APost := postK prog (Go.Proofs.Tryd.f10.results.toList) R
def J_impl_Shortest_1 (D : Den) (R : V → AH → Prop) (env : Env) (H : AH) : Prop := D (cAt [1, 1] impl_Shortest_b) [] [] env H (impl_Shortest_p R)
theorem impl_Shortest_in {args : List V} {H : AH} {R : V → AH → Prop} (h : ∀ D, IsD 10 [2] D → D impl_Shortest_b [] [] (argEnv 0 args) H (impl_Shortest_p R)) (hn : args.length ≤ 10 := by exact of_decide_eq_true rfl) : CallsA prog impl_Shortest args H R := callsD_of Go.Proofs.Tryd.func10 (by kernel_rfl) (by kernel_rfl) (by kernel_rfl) (enters_of Go.Proofs.Tryd.func10 (by kernel_rfl) rfl) hn h
theorem impl_Shortest_eq (hD : IsD 10 [2] D) {x_b0 x_i0 x_n0 : Nat} {x_c0 : Cap} {H0 : AH} : D impl_Shortest_b [] [] (argEnv 0 [V.agg [V.sl x_b0 x_i0 x_n0 x_c0]]) H0 (impl_Shortest_p R) = (
  ld (H0 ++ [Blk.cells [V.sl x_b0 x_i0 x_n0 x_c0] false]) (List.length H0) 0 fun v0 =>
  asSl v0 fun b0 i0 n0 c0 =>
    CallsA prog impl_RxOk [V.agg [V.sl b0 i0 n0 c0]] (H0 ++ [Blk.cells [V.sl x_b0 x_i0 x_n0 x_c0] false]) fun v1 H1 =>
      asBool v1 fun t0 => splitB (!t0) (R (V.int IntKind.i64 (-1)) H1) (J_impl_Shortest_1 D R [(1, V.ptr (List.length H0) 0)] H1)) := (hD _ _ _ _ _ _).trans (by kernel_rfl)
theorem J_impl_Shortest_1_eq (hD : IsD 10 [2] D) {x_b0 x_i0 : Nat} {H0 : AH} : J_impl_Shortest_1 D R [(1, V.ptr x_b0 x_i0)] H0 = (
  ld H0 x_b0 (x_i0 + 0) fun v0 =>
  asSl v0 fun b0 i0 n0 c0 =>
    ld H0 x_b0 (x_i0 + 0) fun v1 =>
      asSl v1 fun b1 i1 n1 c1 =>
        CallsA prog impl_Rx_last [V.agg [V.sl b1 i1 n1 c1]] H0 fun v2 H1 =>
          asInt IntKind.i64 v2 fun n2 =>
            (H1.cell x_b0 (x_i0 + 0) = some (V.sl b0 i0 n0 c0) ∧ True) ∧
              CallsA prog impl_Rx_shortest [V.agg [V.sl b0 i0 n0 c0], V.int IntKind.i64 n2] H1 fun v3 H2 => asInt IntKind.i64 v3 fun n3 => R (V.int IntKind.i64 n3) H2) := (hD _ _ _ _ _ _).trans (by kernel_rfl)

/-! ### math_bits_TrailingZeros -/
noncomputable def math_bits_TrailingZeros_b : Code := (Go.Proofs.Tryd.f85.body).getD .skip
noncomputable abbrev math_bits_TrailingZeros_p (R : V → AH → Prop) : APost := postK prog (Go.Proofs.Tryd.f85.results.toList) R
def J_math_bits_TrailingZeros_1 (D : Den) (R : V → AH → Prop) (env : Env) (H : AH) : Prop := D (cAt [1, 1] math_bits_TrailingZeros_b) [] [] env H (math_bits_TrailingZeros_p R)
theorem math_bits_TrailingZeros_in {args : List V} {H : AH} {R : V → AH → Prop} (h : ∀ D, IsD 8 [2] D → D math_bits_TrailingZeros_b [] [] (argEnv 0 args) H (math_bits_TrailingZeros_p R)) (hn : args.length ≤ 8 := by exact of_decide_eq_true rfl) : CallsA prog math_bits_TrailingZeros args H R := callsD_of Go.Proofs.Tryd.func85 (by kernel_rfl) (by kernel_rfl) (by kernel_rfl) (enters_of Go.Proofs.Tryd.func85 (by kernel_rfl) rfl) hn h
theorem math_bits_TrailingZeros_eq (hD : IsD 8 [2] D) {x0 : Int} {H0 : AH} : D math_bits_TrailingZeros_b [] [] (argEnv 0 [V.int IntKind.u64 x0]) H0 (math_bits_TrailingZeros_p R) = (
  J_math_bits_TrailingZeros_1 D R [(0, V.int IntKind.u64 x0)] H0) := (hD _ _ _ _ _ _).trans (by kernel_rfl)
theorem J_math_bits_TrailingZeros_1_eq (hD : IsD 8 [2] D) {x0 : Int} {H0 : AH} : J_math_bits_TrailingZeros_1 D R [(0, V.int IntKind.u64 x0)] H0 = (
  CallsA prog math_bits_TrailingZeros64 [V.int IntKind.u64 x0] H0 fun v0 H1 => asInt IntKind.i64 v0 fun n0 => R (V.int IntKind.i64 n0) H1) := (hD _ _ _ _ _ _).trans (by kernel_rfl)

/-! ### math_bits_TrailingZeros64 -/
noncomputable def math_bits_TrailingZeros64_b : Code := (Go.Proofs.Tryd.f88.body).getD .skip
noncomputable abbrev math_bits_TrailingZeros64_p (R : V → AH → Prop) : APost := postK prog (Go.Proofs.Tryd.f88.results.toList) R
def J_math_bits_TrailingZeros64_1 (D : Den) (R : V → AH → Prop) (env : Env) (H : AH) : Prop := D (cAt [1, 1] math_bits_TrailingZeros64_b) [] [] env H (math_bits_TrailingZeros64_p R)
theorem math_bits_TrailingZeros64_in {args : List V} {H : AH} {R : V → AH → Prop} (h : ∀ D, IsD 14 [2] D → D math_bits_TrailingZeros64_b [] [] (argEnv 0 args) H (math_bits_TrailingZeros64_p R)) (hn : args.length ≤ 14 := by exact of_decide_eq_true rfl) : CallsA prog math_bits_TrailingZeros64 args H R := callsD_of Go.Proofs.Tryd.func88 (by kernel_rfl) (by kernel_rfl) (by kernel_rfl) (enters_of Go.Proofs.Tryd.func88 (by kernel_rfl) rfl) hn h
theorem math_bits_TrailingZeros64_eq (hD : IsD 14 [2] D) {x0 : Int} {H0 : AH} : D math_bits_TrailingZeros64_b [] [] (argEnv 0 [V.int IntKind.u64 x0]) H0 (math_bits_TrailingZeros64_p R) = (
  splitB (x0 == 0) (R (V.int IntKind.i64 64) H0) (J_math_bits_TrailingZeros64_1 D R [(0, V.int IntKind.u64 x0)] H0)) := (hD _ _ _ _ _ _).trans (by kernel_rfl)
theorem J_math_bits_TrailingZeros64_1_eq (hD : IsD 14 [2] D) {x0 : Int} {H0 : AH} : J_math_bits_TrailingZeros64_1 D R [(0, V.int IntKind.u64 x0)] H0 = (
  nn 58 ∧ False) := (hD _ _ _ _ _ _).trans (by kernel_rfl)

/-! ### spec_l1Rd_deep -/
noncomputable def spec_l1Rd_deep_b : Code := (Go.Proofs.Tryd.f34.body).getD .skip
noncomputable abbrev spec_l1Rd_deep_p (R : V → AH → Prop) : APost := postK prog (Go.Proofs.Tryd.f34.results.toList) R
theorem spec_l1Rd_deep_in {args : List V} {H : AH} {R : V → AH → Prop} (h : ∀ D, IsD 14 [2] D → D spec_l1Rd_deep_b [] [] (argEnv 0 args) H (spec_l1Rd_deep_p R)) (hn : args.length ≤ 14 := by exact of_decide_eq_true rfl) : CallsA prog spec_l1Rd_deep args H R := callsD_of Go.Proofs.Tryd.func34 (by kernel_rfl) (by kernel_rfl) (by kernel_rfl) (enters_of Go.Proofs.Tryd.func34 (by kernel_rfl) rfl) hn h
theorem spec_l1Rd_deep_eq (hD : IsD 14 [2] D) {r_b0 r_i0 : Nat} {H0 : AH} : D spec_l1Rd_deep_b [] [] (argEnv 0 [V.ptr r_b0 r_i0]) H0 (spec_l1Rd_deep_p R) = (
  ld H0 r_b0 r_i0 fun v0 =>
  asSl v0 fun b0 i0 n0 c0 =>
    nz 5 ∧
      CallsA prog spec_l1Rd_below [V.ptr r_b0 r_i0, V.int IntKind.i64 (if IntKind.i64.wrap (1 + IntKind.i64.wrap ((↑n0 : Int).tdiv 5)) < 5 then IntKind.i64.wrap (1 + IntKind.i64.wrap ((↑n0 : Int).tdiv 5)) else 5)]
        H0 fun v1 H1 => asInt IntKind.i64 v1 fun n1 => R (V.int IntKind.i64 (IntKind.i64.wrap (1 + n1))) H1) := (hD _ _ _ _ _ _).trans (by kernel_rfl)

/-! ### impl_Rx_last -/
noncomputable def impl_Rx_last_b : Code := (Go.Proofs.Tryd.f26.body).getD .skip
noncomputable abbrev impl_Rx_last_p (R : V → AH → Prop) : APost := postK prog (Go.Proofs.Tryd.f26.results.toList) R
theorem impl_Rx_last_in {args : List V} {H : AH} {R : V → AH → Prop} (h : ∀ D, IsD 7 [2] D → D impl_Rx_last_b [] [] (argEnv 0 args) H (impl_Rx_last_p R)) (hn : args.length ≤ 7 := by exact of_decide_eq_true rfl) : CallsA prog impl_Rx_last args H R := callsD_of Go.Proofs.Tryd.func26 (by kernel_rfl) (by kernel_rfl) (by kernel_rfl) (enters_of Go.Proofs.Tryd.func26 (by kernel_rfl) rfl) hn h
theorem impl_Rx_last_eq (hD : IsD 7 [2] D) {x_b0 x_i0 x_n0 : Nat} {x_c0 : Cap} {H0 : AH} : D impl_Rx_last_b [] [] (argEnv 0 [V.agg [V.sl x_b0 x_i0 x_n0 x_c0]]) H0 (impl_Rx_last_p R) = (
  ld (H0 ++ [Blk.cells [V.sl x_b0 x_i0 x_n0 x_c0] false]) (List.length H0) 0 fun v0 =>
  asSl v0 fun b0 i0 n0 c0 =>
    CallsA prog impl_size_impl_RNode [V.sl b0 i0 n0 c0] (H0 ++ [Blk.cells [V.sl x_b0 x_i0 x_n0 x_c0] false]) fun v1 H1 => asInt IntKind.i64 v1 fun n1 => R (V.int IntKind.i64 (IntKind.i64.wrap (n1 - 1))) H1) := (hD _ _ _ _ _ _).trans (by kernel_rfl)

/-! ### spec_Without -/
noncomputable def spec_Without_b : Code := (Go.Proofs.Tryd.f80.body).getD .skip
noncomputable abbrev spec_Without_p (R : V → AH → Prop) : APost := postK prog (Go.Proofs.Tryd.f80.results.toList) R
theorem spec_Without_in {args : List V} {H : AH} {R : V → AH → Prop} (h : ∀ D, IsD 8 [4] D → D spec_Without_b [] [] (argEnv 0 args) H (spec_Without_p R)) (hn : args.length ≤ 8 := by exact of_decide_eq_true rfl) : CallsA prog spec_Without args H R := callsD_of Go.Proofs.Tryd.func80 (by kernel_rfl) (by kernel_rfl) (by kernel_rfl) (enters_of Go.Proofs.Tryd.func80 (by kernel_rfl) rfl) hn h
theorem spec_Without_eq (hD : IsD 8 [4] D) {a_b0 a_i0 a_n0 : Nat} {a_c0 : Cap} {b_b0 b_i0 b_n0 : Nat} {b_c0 : Cap} {H0 : AH} : D spec_Without_b [] [] (argEnv 0 [V.sl a_b0 a_i0 a_n0 a_c0, V.sl b_b0 b_i0 b_n0 b_c0]) H0 (spec_Without_p R) = (
  CallsA prog spec_l1Both [V.sl a_b0 a_i0 a_n0 a_c0, V.sl b_b0 b_i0 b_n0 b_c0, V.int IntKind.i64 2] H0 fun v0 H1 => asSl v0 fun b0 i0 n0 c0 => R (V.sl b0 i0 n0 c0) H1) := (hD _ _ _ _ _ _).trans (by kernel_rfl)

/-! ### strconv_FormatInt -/
noncomputable def strconv_FormatInt_b : Code := (Go.Proofs.Tryd.f44.body).getD .skip
noncomputable abbrev strconv_FormatInt_p (R : V → AH → Prop) : APost := postK prog (Go.Proofs.Tryd.f44.results.toList) R
theorem strconv_FormatInt_in {args : List V} {H : AH} {R : V → AH → Prop} (h : ∀ D, IsD 8 [4] D → D strconv_FormatInt_b [] [] (argEnv 0 args) H (strconv_FormatInt_p R)) (hn : args.length ≤ 8 := by exact of_decide_eq_true rfl) : CallsA prog strconv_FormatInt args H R := callsD_of Go.Proofs.Tryd.func44 (by kernel_rfl) (by kernel_rfl) (by kernel_rfl) (enters_of Go.Proofs.Tryd.func44 (by kernel_rfl) rfl) hn h
theorem strconv_FormatInt_eq (hD : IsD 8 [4] D) {i0 base0 : Int} {H0 : AH} : D strconv_FormatInt_b [] [] (argEnv 0 [V.int IntKind.i64 i0, V.int IntKind.i64 base0]) H0 (strconv_FormatInt_p R) = (
  CallsA prog internal_strconv_FormatInt [V.int IntKind.i64 i0, V.int IntKind.i64 base0] H0 fun v0 H1 => asStr v0 fun s0 => R (V.str s0) H1) := (hD _ _ _ _ _ _).trans (by kernel_rfl)

end Go.Proofs.YtpjkammmoaeheaaDoor.Aw
