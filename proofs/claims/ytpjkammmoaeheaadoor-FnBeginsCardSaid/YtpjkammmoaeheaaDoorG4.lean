/- What the calculus asks of this program's functions, second part (printed by program, checked by the kernel). -/
import Derived.Test.YtpjkammmoaeheaaDoorG3

/- What the calculus asks of the code of each function: printed by a program of this claim's own (wip/aw/Gen.lean, mkw.py), checked by the kernel. -/
set_option maxRecDepth 100000
set_option linter.unusedVariables false
namespace Go.Proofs.YtpjkammmoaeheaaDoor.Aw
open Go Go.RowKit

variable {D : Den} {R : V → AH → Prop} {K1 K2 K3 K4 : Env → AH → Prop} {H0 : AH}

/-! ### impl_matcher_endsOf -/
noncomputable def impl_matcher_endsOf_b : Code := (Go.Proofs.Tryd.f46.body).getD .skip
noncomputable abbrev impl_matcher_endsOf_p (R : V → AH → Prop) : APost := postK prog (Go.Proofs.Tryd.f46.results.toList) R
def J_impl_matcher_endsOf_1 (D : Den) (R : V → AH → Prop) (env : Env) (H : AH) : Prop := D (cAt [1, 1] impl_matcher_endsOf_b) [] [] env H (impl_matcher_endsOf_p R)
def J_impl_matcher_endsOf_2 (D : Den) (R : V → AH → Prop) (env : Env) (H : AH) : Prop := D (cAt [1, 0, 1, 0, 1, 1, 1, 0, 1, 1] impl_matcher_endsOf_b) [(0, [0, 4, 2])] [0, 4, 2] env H (blockQ 0 (seqQ (fun e H => J_impl_matcher_endsOf_1 D R (keepE e [0, 4, 2]) H) (impl_matcher_endsOf_p R)))
def L_impl_matcher_endsOf_3 (D : Den) (R : V → AH → Prop) (env : Env) (H : AH) (K1 : Env → AH → Prop) : Prop := D (cAt [1, 0, 1, 0, 1, 1, 1, 0, 1, 0, 1, 0, 0] impl_matcher_endsOf_b) [(1, [8]), (0, [0, 4, 2])] [29, 28, 8, 2, 0, 7] env H (seqQ (fun e H => K1 (keepE e [29, 28, 8, 2, 0, 7]) H) (blockQ 1 (seqQ (fun e H => J_impl_matcher_endsOf_2 D R (keepE e [8]) H) (blockQ 0 (seqQ (fun e H => J_impl_matcher_endsOf_1 D R (keepE e [0, 4, 2]) H) (impl_matcher_endsOf_p R))))))
def J_impl_matcher_endsOf_4 (D : Den) (R : V → AH → Prop) (K1 : Env → AH → Prop) (env : Env) (H : AH) : Prop := D (cAt [1, 0, 1, 0, 1, 1, 1, 0, 1, 0, 1, 0, 0, 1, 1] impl_matcher_endsOf_b) [(1, [8]), (0, [0, 4, 2])] [29, 28, 8, 2, 0, 7] env H (seqQ (fun e H => K1 (keepE e [29, 28, 8, 2, 0, 7]) H) (blockQ 1 (seqQ (fun e H => J_impl_matcher_endsOf_2 D R (keepE e [8]) H) (blockQ 0 (seqQ (fun e H => J_impl_matcher_endsOf_1 D R (keepE e [0, 4, 2]) H) (impl_matcher_endsOf_p R))))))
def J_impl_matcher_endsOf_5 (D : Den) (R : V → AH → Prop) (env : Env) (H : AH) : Prop := D (cAt [1, 1, 1] impl_matcher_endsOf_b) [] [] env H (impl_matcher_endsOf_p R)
def L_impl_matcher_endsOf_6 (D : Den) (R : V → AH → Prop) (env : Env) (H : AH) (K1 : Env → AH → Prop) : Prop := D (cAt [1, 1, 0, 1, 0, 0] impl_matcher_endsOf_b) [(3, [0, 4, 2])] [118, 119, 0, 4, 2] env H (seqQ (fun e H => K1 (keepE e [118, 119, 0, 4, 2]) H) (blockQ 3 (seqQ (fun e H => J_impl_matcher_endsOf_5 D R (keepE e [0, 4, 2]) H) (impl_matcher_endsOf_p R))))
def J_impl_matcher_endsOf_7 (D : Den) (R : V → AH → Prop) (K1 : Env → AH → Prop) (env : Env) (H : AH) : Prop := D (cAt [1, 0, 1, 0, 1, 1, 1, 0, 1, 0, 1, 0, 0, 1, 1, 1] impl_matcher_endsOf_b) [(1, [8]), (0, [0, 4, 2])] [29, 28, 8, 2, 0, 7] env H (seqQ (fun e H => K1 (keepE e [29, 28, 8, 2, 0, 7]) H) (blockQ 1 (seqQ (fun e H => J_impl_matcher_endsOf_2 D R (keepE e [8]) H) (blockQ 0 (seqQ (fun e H => J_impl_matcher_endsOf_1 D R (keepE e [0, 4, 2]) H) (impl_matcher_endsOf_p R))))))
def J_impl_matcher_endsOf_8 (D : Den) (R : V → AH → Prop) (K1 : Env → AH → Prop) (env : Env) (H : AH) : Prop := D (cAt [1, 1, 0, 1, 0, 0, 1, 1] impl_matcher_endsOf_b) [(3, [0, 4, 2])] [118, 119, 0, 4, 2] env H (seqQ (fun e H => K1 (keepE e [118, 119, 0, 4, 2]) H) (blockQ 3 (seqQ (fun e H => J_impl_matcher_endsOf_5 D R (keepE e [0, 4, 2]) H) (impl_matcher_endsOf_p R))))
def J_impl_matcher_endsOf_9 (D : Den) (R : V → AH → Prop) (K1 : Env → AH → Prop) (env : Env) (H : AH) : Prop := D (cAt [1, 1, 0, 1, 0, 0, 1, 1, 1] impl_matcher_endsOf_b) [(3, [0, 4, 2])] [118, 119, 0, 4, 2] env H (seqQ (fun e H => K1 (keepE e [118, 119, 0, 4, 2]) H) (blockQ 3 (seqQ (fun e H => J_impl_matcher_endsOf_5 D R (keepE e [0, 4, 2]) H) (impl_matcher_endsOf_p R))))
def J_impl_matcher_endsOf_10 (D : Den) (R : V → AH → Prop) (K1 : Env → AH → Prop) (env : Env) (H : AH) : Prop := D (cAt [1, 1, 0, 1, 0, 0, 1, 1, 0, 0, 1, 1] impl_matcher_endsOf_b) [(4, [119, 118, 0, 4, 2]), (3, [0, 4, 2])] [119, 118, 0, 4, 2] env H (blockQ 4 (seqQ (fun e H => J_impl_matcher_endsOf_9 D R K1 (keepE e [119, 118, 0, 4, 2]) H) (seqQ (fun e H => K1 (keepE e [118, 119, 0, 4, 2]) H) (blockQ 3 (seqQ (fun e H => J_impl_matcher_endsOf_5 D R (keepE e [0, 4, 2]) H) (impl_matcher_endsOf_p R))))))
def J_impl_matcher_endsOf_11 (D : Den) (R : V → AH → Prop) (env : Env) (H : AH) : Prop := D (cAt [1, 1, 1, 1] impl_matcher_endsOf_b) [] [] env H (impl_matcher_endsOf_p R)
theorem impl_matcher_endsOf_in {args : List V} {H : AH} {R : V → AH → Prop} (h : ∀ D, IsD 155 [6] D → D impl_matcher_endsOf_b [] [] (argEnv 0 args) H (impl_matcher_endsOf_p R)) (hn : args.length ≤ 155 := by exact of_decide_eq_true rfl) : CallsA prog impl_matcher_endsOf args H R := callsD_of Go.Proofs.Tryd.func46 (by kernel_rfl) (by kernel_rfl) (by kernel_rfl) (enters_of Go.Proofs.Tryd.func46 (by kernel_rfl) rfl) hn h
theorem impl_matcher_endsOf_eq (hD : IsD 155 [6] D) {m_b0 m_i0 : Nat} {n0 : Int} {n_b0 n_i0 n_n0 : Nat} {n_c0 : Cap} {n_b1 n_i1 n_n1 : Nat} {n_c1 : Cap} {n1 n2 : Int} {from_b0 from_i0 from_n0 : Nat} {from_c0 : Cap} {H0 : AH} : D impl_matcher_endsOf_b [] [] (argEnv 0 [V.ptr m_b0 m_i0, V.agg [V.int IntKind.i64 n0, V.sl n_b0 n_i0 n_n0 n_c0, V.sl n_b1 n_i1 n_n1 n_c1, V.int IntKind.i64 n1, V.int IntKind.i64 n2], V.sl from_b0 from_i0 from_n0 from_c0]) H0 (impl_matcher_endsOf_p R) = (
  ld (H0 ++ [Blk.cells [V.int IntKind.i64 n0, V.sl n_b0 n_i0 n_n0 n_c0, V.sl n_b1 n_i1 n_n1 n_c1, V.int IntKind.i64 n1, V.int IntKind.i64 n2] false]) (List.length H0) 0 fun v0 =>
  asInt IntKind.i64 v0 fun n3 =>
    splitB (n3 == 1)
      (R (V.sl from_b0 from_i0 from_n0 from_c0) (H0 ++ [Blk.cells [V.int IntKind.i64 n0, V.sl n_b0 n_i0 n_n0 n_c0, V.sl n_b1 n_i1 n_n1 n_c1, V.int IntKind.i64 n1, V.int IntKind.i64 n2] false]))
      (splitB (n3 == 2)
        (ld (H0 ++ [Blk.cells [V.int IntKind.i64 n0, V.sl n_b0 n_i0 n_n0 n_c0, V.sl n_b1 n_i1 n_n1 n_c1, V.int IntKind.i64 n1, V.int IntKind.i64 n2] false]) (List.length H0) 1 fun v1 =>
          asSl v1 fun b0 i0 n4 c0 =>
            mkOk (↑from_n0 : Int) (↑from_n0 : Int) 1 ∧
              CallsA prog impl_bytesOf [V.sl b0 i0 n4 c0]
                (H0 ++ [Blk.cells [V.int IntKind.i64 n0, V.sl n_b0 n_i0 n_n0 n_c0, V.sl n_b1 n_i1 n_n1 n_c1, V.int IntKind.i64 n1, V.int IntKind.i64 n2] false] ++
                    [Blk.cells (rep (↑from_n0 : Int).toNat [V.bool false]) false] ++
                  [Blk.cells (List.replicate 256 (V.bool false)) false])
                fun v2 H1 =>
                H1[List.length
                        (H0 ++ [Blk.cells [V.int IntKind.i64 n0, V.sl n_b0 n_i0 n_n0 n_c0, V.sl n_b1 n_i1 n_n1 n_c1, V.int IntKind.i64 n1, V.int IntKind.i64 n2] false] ++
                          [Blk.cells (rep (↑from_n0 : Int).toNat [V.bool false]) false])]? =
                    some (Blk.cells (List.replicate 256 (V.bool false)) false) ∧
                  H1[List.length (H0 ++ [Blk.cells [V.int IntKind.i64 n0, V.sl n_b0 n_i0 n_n0 n_c0, V.sl n_b1 n_i1 n_n1 n_c1, V.int IntKind.i64 n1, V.int IntKind.i64 n2] false])]? =
                      some (Blk.cells (rep (↑from_n0 : Int).toNat [V.bool false]) false) ∧
                    obB (decide (v2.cells.length = 256) && v2.cells.all V.one)
                      (stK H1
                        (List.length
                          (H0 ++ [Blk.cells [V.int IntKind.i64 n0, V.sl n_b0 n_i0 n_n0 n_c0, V.sl n_b1 n_i1 n_n1 n_c1, V.int IntKind.i64 n1, V.int IntKind.i64 n2] false] ++
                            [Blk.cells (rep (↑from_n0 : Int).toNat [V.bool false]) false]))
                        0 v2.cells fun H2 =>
                        H2[List.length (H0 ++ [Blk.cells [V.int IntKind.i64 n0, V.sl n_b0 n_i0 n_n0 n_c0, V.sl n_b1 n_i1 n_n1 n_c1, V.int IntKind.i64 n1, V.int IntKind.i64 n2] false])]? =
                            some (Blk.cells (rep (↑from_n0 : Int).toNat [V.bool false]) false) ∧
                          ld H2 m_b0 (m_i0 + 1) fun v3 =>
                            asStr v3 fun s0 =>
                              LoopI (L_impl_matcher_endsOf_3 D R)
                                [(29, V.int IntKind.i64 0), (28, V.int IntKind.i64 (↑s0.length : Int)),
                                  (8,
                                    V.sl (List.length (H0 ++ [Blk.cells [V.int IntKind.i64 n0, V.sl n_b0 n_i0 n_n0 n_c0, V.sl n_b1 n_i1 n_n1 n_c1, V.int IntKind.i64 n1, V.int IntKind.i64 n2] false]))
                                      0 (↑from_n0 : Int).toNat (Cap.ex (↑from_n0 : Int).toNat)),
                                  (2, V.sl from_b0 from_i0 from_n0 from_c0), (0, V.ptr m_b0 m_i0),
                                  (7,
                                    V.ptr
                                      (List.length
                                        (H0 ++ [Blk.cells [V.int IntKind.i64 n0, V.sl n_b0 n_i0 n_n0 n_c0, V.sl n_b1 n_i1 n_n1 n_c1, V.int IntKind.i64 n1, V.int IntKind.i64 n2] false] ++
                                          [Blk.cells (rep (↑from_n0 : Int).toNat [V.bool false]) false]))
                                      0)]
                                H2))
        (splitB (n3 == 3)
          (ld (H0 ++ [Blk.cells [V.int IntKind.i64 n0, V.sl n_b0 n_i0 n_n0 n_c0, V.sl n_b1 n_i1 n_n1 n_c1, V.int IntKind.i64 n1, V.int IntKind.i64 n2] false]) (List.length H0) 2 fun v4 =>
            asSl v4 fun b1 i1 n5 c1 =>
              inB 1 n5 ∧
                ld (H0 ++ [Blk.cells [V.int IntKind.i64 n0, V.sl n_b0 n_i0 n_n0 n_c0, V.sl n_b1 n_i1 n_n1 n_c1, V.int IntKind.i64 n1, V.int IntKind.i64 n2] false]) b1 (i1 + 1) fun v5 =>
                  asInt IntKind.i64 v5 fun n6 =>
                    ld (H0 ++ [Blk.cells [V.int IntKind.i64 n0, V.sl n_b0 n_i0 n_n0 n_c0, V.sl n_b1 n_i1 n_n1 n_c1, V.int IntKind.i64 n1, V.int IntKind.i64 n2] false]) (List.length H0) 2 fun v6 =>
                      asSl v6 fun b2 i2 n7 c2 =>
                        inB 0 n7 ∧
                          ld (H0 ++ [Blk.cells [V.int IntKind.i64 n0, V.sl n_b0 n_i0 n_n0 n_c0, V.sl n_b1 n_i1 n_n1 n_c1, V.int IntKind.i64 n1, V.int IntKind.i64 n2] false]) b2 i2 fun v7 =>
                            asInt IntKind.i64 v7 fun n8 =>
                              CallsA prog impl_matcher_ends [V.ptr m_b0 m_i0, V.int IntKind.i64 n8, V.sl from_b0 from_i0 from_n0 from_c0]
                                (H0 ++ [Blk.cells [V.int IntKind.i64 n0, V.sl n_b0 n_i0 n_n0 n_c0, V.sl n_b1 n_i1 n_n1 n_c1, V.int IntKind.i64 n1, V.int IntKind.i64 n2] false]) fun v8 H3 =>
                                asSl v8 fun b3 i3 n9 c3 =>
                                  H3.cell b1 (i1 + 1) = some (V.int IntKind.i64 n6) ∧
                                    H3.cell (List.length H0) 2 = some (V.sl b1 i1 n5 c1) ∧
                                      CallsA prog impl_matcher_ends [V.ptr m_b0 m_i0, V.int IntKind.i64 n6, V.sl b3 i3 n9 c3] H3 fun v9 H4 => asSl v9 fun b4 i4 n10 c4 => R (V.sl b4 i4 n10 c4) H4)
          (splitB (n3 == 4)
            (ld (H0 ++ [Blk.cells [V.int IntKind.i64 n0, V.sl n_b0 n_i0 n_n0 n_c0, V.sl n_b1 n_i1 n_n1 n_c1, V.int IntKind.i64 n1, V.int IntKind.i64 n2] false]) (List.length H0) 2 fun v10 =>
              asSl v10 fun b5 i5 n11 c5 =>
                inB 0 n11 ∧
                  ld (H0 ++ [Blk.cells [V.int IntKind.i64 n0, V.sl n_b0 n_i0 n_n0 n_c0, V.sl n_b1 n_i1 n_n1 n_c1, V.int IntKind.i64 n1, V.int IntKind.i64 n2] false]) b5 i5 fun v11 =>
                    asInt IntKind.i64 v11 fun n12 =>
                      ld (H0 ++ [Blk.cells [V.int IntKind.i64 n0, V.sl n_b0 n_i0 n_n0 n_c0, V.sl n_b1 n_i1 n_n1 n_c1, V.int IntKind.i64 n1, V.int IntKind.i64 n2] false]) (List.length H0) 2 fun v12 =>
                        asSl v12 fun b6 i6 n13 c6 =>
                          inB 1 n13 ∧
                            ld (H0 ++ [Blk.cells [V.int IntKind.i64 n0, V.sl n_b0 n_i0 n_n0 n_c0, V.sl n_b1 n_i1 n_n1 n_c1, V.int IntKind.i64 n1, V.int IntKind.i64 n2] false]) b6 (i6 + 1) fun v13 =>
                              asInt IntKind.i64 v13 fun n14 =>
                                CallsA prog impl_matcher_ends [V.ptr m_b0 m_i0, V.int IntKind.i64 n12, V.sl from_b0 from_i0 from_n0 from_c0]
                                  (H0 ++ [Blk.cells [V.int IntKind.i64 n0, V.sl n_b0 n_i0 n_n0 n_c0, V.sl n_b1 n_i1 n_n1 n_c1, V.int IntKind.i64 n1, V.int IntKind.i64 n2] false]) fun v14 H5 =>
                                  asSl v14 fun b7 i7 n15 c7 =>
                                    H5.cell b6 (i6 + 1) = some (V.int IntKind.i64 n14) ∧
                                      H5.cell (List.length H0) 2 = some (V.sl b6 i6 n13 c6) ∧
                                        CallsA prog impl_matcher_ends [V.ptr m_b0 m_i0, V.int IntKind.i64 n14, V.sl from_b0 from_i0 from_n0 from_c0] H5 fun v15 H6 =>
                                          asSl v15 fun b8 i8 n16 c8 => CallsA prog impl_places_with [V.sl b7 i7 n15 c7, V.sl b8 i8 n16 c8] H6 fun v16 H7 => asSl v16 fun b9 i9 n17 c9 => R (V.sl b9 i9 n17 c9) H7)
            (splitB (n3 == 5)
              (ld (H0 ++ [Blk.cells [V.int IntKind.i64 n0, V.sl n_b0 n_i0 n_n0 n_c0, V.sl n_b1 n_i1 n_n1 n_c1, V.int IntKind.i64 n1, V.int IntKind.i64 n2] false]) (List.length H0) 2 fun v17 =>
                asSl v17 fun b10 i10 n18 c10 =>
                  inB 0 n18 ∧
                    ld (H0 ++ [Blk.cells [V.int IntKind.i64 n0, V.sl n_b0 n_i0 n_n0 n_c0, V.sl n_b1 n_i1 n_n1 n_c1, V.int IntKind.i64 n1, V.int IntKind.i64 n2] false]) b10 i10 fun v18 =>
                      asInt IntKind.i64 v18 fun n19 =>
                        CallsA prog impl_matcher_repeat [V.ptr m_b0 m_i0, V.int IntKind.i64 n19, V.sl from_b0 from_i0 from_n0 from_c0, V.int IntKind.i64 (-1)]
                          (H0 ++ [Blk.cells [V.int IntKind.i64 n0, V.sl n_b0 n_i0 n_n0 n_c0, V.sl n_b1 n_i1 n_n1 n_c1, V.int IntKind.i64 n1, V.int IntKind.i64 n2] false]) fun v19 H8 =>
                          asSl v19 fun b11 i11 n20 c11 => R (V.sl b11 i11 n20 c11) H8)
              (splitB (n3 == 6)
                (ld (H0 ++ [Blk.cells [V.int IntKind.i64 n0, V.sl n_b0 n_i0 n_n0 n_c0, V.sl n_b1 n_i1 n_n1 n_c1, V.int IntKind.i64 n1, V.int IntKind.i64 n2] false]) (List.length H0) 2 fun v20 =>
                  asSl v20 fun b12 i12 n21 c12 =>
                    inB 0 n21 ∧
                      ld (H0 ++ [Blk.cells [V.int IntKind.i64 n0, V.sl n_b0 n_i0 n_n0 n_c0, V.sl n_b1 n_i1 n_n1 n_c1, V.int IntKind.i64 n1, V.int IntKind.i64 n2] false]) b12 i12 fun v21 =>
                        asInt IntKind.i64 v21 fun n22 =>
                          ld (H0 ++ [Blk.cells [V.int IntKind.i64 n0, V.sl n_b0 n_i0 n_n0 n_c0, V.sl n_b1 n_i1 n_n1 n_c1, V.int IntKind.i64 n1, V.int IntKind.i64 n2] false]) (List.length H0) 2
                            fun v22 =>
                            asSl v22 fun b13 i13 n23 c13 =>
                              inB 0 n23 ∧
                                ld (H0 ++ [Blk.cells [V.int IntKind.i64 n0, V.sl n_b0 n_i0 n_n0 n_c0, V.sl n_b1 n_i1 n_n1 n_c1, V.int IntKind.i64 n1, V.int IntKind.i64 n2] false]) b13 i13 fun v23 =>
                                  asInt IntKind.i64 v23 fun n24 =>
                                    CallsA prog impl_matcher_ends [V.ptr m_b0 m_i0, V.int IntKind.i64 n24, V.sl from_b0 from_i0 from_n0 from_c0]
                                      (H0 ++ [Blk.cells [V.int IntKind.i64 n0, V.sl n_b0 n_i0 n_n0 n_c0, V.sl n_b1 n_i1 n_n1 n_c1, V.int IntKind.i64 n1, V.int IntKind.i64 n2] false]) fun v24 H9 =>
                                      asSl v24 fun b14 i14 n25 c14 =>
                                        H9.cell b12 i12 = some (V.int IntKind.i64 n22) ∧
                                          H9.cell (List.length H0) 2 = some (V.sl b12 i12 n21 c12) ∧
                                            CallsA prog impl_matcher_repeat [V.ptr m_b0 m_i0, V.int IntKind.i64 n22, V.sl b14 i14 n25 c14, V.int IntKind.i64 (-1)] H9 fun v25 H10 =>
                                              asSl v25 fun b15 i15 n26 c15 => R (V.sl b15 i15 n26 c15) H10)
                (splitB (n3 == 7)
                  (ld (H0 ++ [Blk.cells [V.int IntKind.i64 n0, V.sl n_b0 n_i0 n_n0 n_c0, V.sl n_b1 n_i1 n_n1 n_c1, V.int IntKind.i64 n1, V.int IntKind.i64 n2] false]) (List.length H0) 2 fun v26 =>
                    asSl v26 fun b16 i16 n27 c16 =>
                      inB 0 n27 ∧
                        ld (H0 ++ [Blk.cells [V.int IntKind.i64 n0, V.sl n_b0 n_i0 n_n0 n_c0, V.sl n_b1 n_i1 n_n1 n_c1, V.int IntKind.i64 n1, V.int IntKind.i64 n2] false]) b16 i16 fun v27 =>
                          asInt IntKind.i64 v27 fun n28 =>
                            CallsA prog impl_matcher_repeat [V.ptr m_b0 m_i0, V.int IntKind.i64 n28, V.sl from_b0 from_i0 from_n0 from_c0, V.int IntKind.i64 1]
                              (H0 ++ [Blk.cells [V.int IntKind.i64 n0, V.sl n_b0 n_i0 n_n0 n_c0, V.sl n_b1 n_i1 n_n1 n_c1, V.int IntKind.i64 n1, V.int IntKind.i64 n2] false]) fun v28 H11 =>
                              asSl v28 fun b17 i17 n29 c17 => R (V.sl b17 i17 n29 c17) H11)
                  (J_impl_matcher_endsOf_1 D R [(0, V.ptr m_b0 m_i0), (4, V.ptr (List.length H0) 0), (2, V.sl from_b0 from_i0 from_n0 from_c0)]
                    (H0 ++ [Blk.cells [V.int IntKind.i64 n0, V.sl n_b0 n_i0 n_n0 n_c0, V.sl n_b1 n_i1 n_n1 n_c1, V.int IntKind.i64 n1, V.int IntKind.i64 n2] false]))))))))) := (hD _ _ _ _ _ _).trans (by kernel_rfl)
theorem L_impl_matcher_endsOf_3_eq (hD : IsD 155 [6] D) {x290 x280 : Int} {out_b0 out_i0 out_n0 : Nat} {out_c0 : Cap} {from_b0 from_i0 from_n0 : Nat} {from_c0 : Cap} {m_b0 m_i0 has_b0 has_i0 : Nat} {H0 : AH} : L_impl_matcher_endsOf_3 D R [(29, V.int IntKind.i64 x290), (28, V.int IntKind.i64 x280), (8, V.sl out_b0 out_i0 out_n0 out_c0), (2, V.sl from_b0 from_i0 from_n0 from_c0), (0, V.ptr m_b0 m_i0), (7, V.ptr has_b0 has_i0)] H0 K1 = (
  splitB (decide (x290 < x280))
  (J_impl_matcher_endsOf_4 D R K1
    [(29, V.int IntKind.i64 x290), (28, V.int IntKind.i64 x280), (8, V.sl out_b0 out_i0 out_n0 out_c0), (2, V.sl from_b0 from_i0 from_n0 from_c0), (0, V.ptr m_b0 m_i0), (7, V.ptr has_b0 has_i0)] H0)
  (J_impl_matcher_endsOf_2 D R [(8, V.sl out_b0 out_i0 out_n0 out_c0)] H0)) := (hD _ _ _ _ _ _).trans (by kernel_rfl)
theorem J_impl_matcher_endsOf_1_eq (hD : IsD 155 [6] D) {m_b0 m_i0 n_b0 n_i0 from_b0 from_i0 from_n0 : Nat} {from_c0 : Cap} {H0 : AH} : J_impl_matcher_endsOf_1 D R [(0, V.ptr m_b0 m_i0), (4, V.ptr n_b0 n_i0), (2, V.sl from_b0 from_i0 from_n0 from_c0)] H0 = (
  ld H0 n_b0 (n_i0 + 3) fun v0 =>
  asInt IntKind.i64 v0 fun n0 =>
    LoopI (L_impl_matcher_endsOf_6 D R)
      [(118, V.int IntKind.i64 n0), (119, V.int IntKind.i64 0), (0, V.ptr m_b0 m_i0), (4, V.ptr n_b0 n_i0), (2, V.sl from_b0 from_i0 from_n0 from_c0)] H0) := (hD _ _ _ _ _ _).trans (by kernel_rfl)
theorem J_impl_matcher_endsOf_4_eq (hD : IsD 155 [6] D) {x290 x280 : Int} {out_b0 out_i0 out_n0 : Nat} {out_c0 : Cap} {from_b0 from_i0 from_n0 : Nat} {from_c0 : Cap} {m_b0 m_i0 has_b0 has_i0 : Nat} {H0 : AH} : J_impl_matcher_endsOf_4 D R K1 [(29, V.int IntKind.i64 x290), (28, V.int IntKind.i64 x280), (8, V.sl out_b0 out_i0 out_n0 out_c0), (2, V.sl from_b0 from_i0 from_n0 from_c0), (0, V.ptr m_b0 m_i0), (7, V.ptr has_b0 has_i0)] H0 = (
  inB x290 from_n0 ∧
  ld H0 from_b0 (from_i0 + x290.toNat * 1) fun v0 =>
    asBool v0 fun t0 =>
      splitB t0
        (ld H0 m_b0 (m_i0 + 1) fun v1 =>
          asStr v1 fun s0 =>
            inB x290 s0.length ∧
              inB (↑(byteAt s0 x290).toNat : Int) 256 ∧
                ld H0 has_b0 (has_i0 + (↑(byteAt s0 x290).toNat : Int).toNat * 1) fun v2 =>
                  asBool v2 fun t1 =>
                    inB (IntKind.i64.wrap (x290 + 1)) out_n0 ∧
                      stK H0 out_b0 (out_i0 + (IntKind.i64.wrap (x290 + 1)).toNat * 1) [V.bool t1] fun H1 =>
                        J_impl_matcher_endsOf_7 D R K1
                          [(29, V.int IntKind.i64 x290), (28, V.int IntKind.i64 x280), (8, V.sl out_b0 out_i0 out_n0 out_c0), (2, V.sl from_b0 from_i0 from_n0 from_c0), (0, V.ptr m_b0 m_i0),
                            (7, V.ptr has_b0 has_i0)]
                          H1)
        (inB (IntKind.i64.wrap (x290 + 1)) out_n0 ∧
          stK H0 out_b0 (out_i0 + (IntKind.i64.wrap (x290 + 1)).toNat * 1) [V.bool false] fun H2 =>
            J_impl_matcher_endsOf_7 D R K1
              [(29, V.int IntKind.i64 x290), (28, V.int IntKind.i64 x280), (8, V.sl out_b0 out_i0 out_n0 out_c0), (2, V.sl from_b0 from_i0 from_n0 from_c0), (0, V.ptr m_b0 m_i0),
                (7, V.ptr has_b0 has_i0)]
              H2)) := (hD _ _ _ _ _ _).trans (by kernel_rfl)
theorem J_impl_matcher_endsOf_2_eq (hD : IsD 155 [6] D) {out_b0 out_i0 out_n0 : Nat} {out_c0 : Cap} {H0 : AH} : J_impl_matcher_endsOf_2 D R [(8, V.sl out_b0 out_i0 out_n0 out_c0)] H0 = (
  R (V.sl out_b0 out_i0 out_n0 out_c0) H0) := (hD _ _ _ _ _ _).trans (by kernel_rfl)
theorem L_impl_matcher_endsOf_6_eq (hD : IsD 155 [6] D) {x1180 x1190 : Int} {m_b0 m_i0 n_b0 n_i0 from_b0 from_i0 from_n0 : Nat} {from_c0 : Cap} {H0 : AH} : L_impl_matcher_endsOf_6 D R [(118, V.int IntKind.i64 x1180), (119, V.int IntKind.i64 x1190), (0, V.ptr m_b0 m_i0), (4, V.ptr n_b0 n_i0), (2, V.sl from_b0 from_i0 from_n0 from_c0)] H0 K1 = (
  splitB (decide (x1190 < x1180))
  (J_impl_matcher_endsOf_8 D R K1
    [(118, V.int IntKind.i64 x1180), (119, V.int IntKind.i64 x1190), (0, V.ptr m_b0 m_i0), (4, V.ptr n_b0 n_i0), (2, V.sl from_b0 from_i0 from_n0 from_c0)] H0)
  (J_impl_matcher_endsOf_5 D R [(0, V.ptr m_b0 m_i0), (4, V.ptr n_b0 n_i0), (2, V.sl from_b0 from_i0 from_n0 from_c0)] H0)) := (hD _ _ _ _ _ _).trans (by kernel_rfl)
theorem J_impl_matcher_endsOf_7_eq (hD : IsD 155 [6] D) {x290 x280 : Int} {out_b0 out_i0 out_n0 : Nat} {out_c0 : Cap} {from_b0 from_i0 from_n0 : Nat} {from_c0 : Cap} {m_b0 m_i0 has_b0 has_i0 : Nat} {H0 : AH} : J_impl_matcher_endsOf_7 D R K1 [(29, V.int IntKind.i64 x290), (28, V.int IntKind.i64 x280), (8, V.sl out_b0 out_i0 out_n0 out_c0), (2, V.sl from_b0 from_i0 from_n0 from_c0), (0, V.ptr m_b0 m_i0), (7, V.ptr has_b0 has_i0)] H0 = (
  K1
  [(29, V.int IntKind.i64 (IntKind.i64.wrap (x290 + 1))), (28, V.int IntKind.i64 x280), (8, V.sl out_b0 out_i0 out_n0 out_c0), (2, V.sl from_b0 from_i0 from_n0 from_c0), (0, V.ptr m_b0 m_i0),
    (7, V.ptr has_b0 has_i0)]
  H0) := (hD _ _ _ _ _ _).trans (by kernel_rfl)
theorem J_impl_matcher_endsOf_8_eq (hD : IsD 155 [6] D) {x1180 x1190 : Int} {m_b0 m_i0 n_b0 n_i0 from_b0 from_i0 from_n0 : Nat} {from_c0 : Cap} {H0 : AH} : J_impl_matcher_endsOf_8 D R K1 [(118, V.int IntKind.i64 x1180), (119, V.int IntKind.i64 x1190), (0, V.ptr m_b0 m_i0), (4, V.ptr n_b0 n_i0), (2, V.sl from_b0 from_i0 from_n0 from_c0)] H0 = (
  ld H0 n_b0 (n_i0 + 2) fun v0 =>
  asSl v0 fun b0 i0 n0 c0 =>
    inB 0 n0 ∧
      ld H0 b0 i0 fun v1 =>
        asInt IntKind.i64 v1 fun n1 =>
          CallsA prog impl_matcher_ends [V.ptr m_b0 m_i0, V.int IntKind.i64 n1, V.sl from_b0 from_i0 from_n0 from_c0] H0 fun v2 H1 =>
            asSl v2 fun b1 i1 n2 c1 =>
              CallsA prog impl_places_same [V.sl b1 i1 n2 c1, V.sl from_b0 from_i0 from_n0 from_c0] H1 fun v3 H2 =>
                asBool v3 fun t0 =>
                  splitB t0 (J_impl_matcher_endsOf_5 D R [(0, V.ptr m_b0 m_i0), (4, V.ptr n_b0 n_i0), (2, V.sl from_b0 from_i0 from_n0 from_c0)] H2)
                    (J_impl_matcher_endsOf_10 D R K1
                      [(10, V.sl b1 i1 n2 c1), (119, V.int IntKind.i64 x1190), (118, V.int IntKind.i64 x1180), (0, V.ptr m_b0 m_i0), (4, V.ptr n_b0 n_i0)] H2)) := (hD _ _ _ _ _ _).trans (by kernel_rfl)
theorem J_impl_matcher_endsOf_5_eq (hD : IsD 155 [6] D) {m_b0 m_i0 n_b0 n_i0 from_b0 from_i0 from_n0 : Nat} {from_c0 : Cap} {H0 : AH} : J_impl_matcher_endsOf_5 D R [(0, V.ptr m_b0 m_i0), (4, V.ptr n_b0 n_i0), (2, V.sl from_b0 from_i0 from_n0 from_c0)] H0 = (
  ld H0 n_b0 (n_i0 + 4) fun v0 =>
  asInt IntKind.i64 v0 fun n0 =>
    splitB (decide (n0 < 0))
      (ld H0 n_b0 (n_i0 + 2) fun v1 =>
        asSl v1 fun b0 i0 n1 c0 =>
          inB 0 n1 ∧
            ld H0 b0 i0 fun v2 =>
              asInt IntKind.i64 v2 fun n2 =>
                CallsA prog impl_matcher_repeat [V.ptr m_b0 m_i0, V.int IntKind.i64 n2, V.sl from_b0 from_i0 from_n0 from_c0, V.int IntKind.i64 (-1)] H0 fun v3 H1 => asSl v3 fun b1 i1 n3 c1 => R (V.sl b1 i1 n3 c1) H1)
      (J_impl_matcher_endsOf_11 D R [(0, V.ptr m_b0 m_i0), (2, V.sl from_b0 from_i0 from_n0 from_c0), (4, V.ptr n_b0 n_i0)] H0)) := (hD _ _ _ _ _ _).trans (by kernel_rfl)
theorem J_impl_matcher_endsOf_10_eq (hD : IsD 155 [6] D) {next_b0 next_i0 next_n0 : Nat} {next_c0 : Cap} {x1190 x1180 : Int} {m_b0 m_i0 n_b0 n_i0 : Nat} {H0 : AH} : J_impl_matcher_endsOf_10 D R K1 [(10, V.sl next_b0 next_i0 next_n0 next_c0), (119, V.int IntKind.i64 x1190), (118, V.int IntKind.i64 x1180), (0, V.ptr m_b0 m_i0), (4, V.ptr n_b0 n_i0)] H0 = (
  J_impl_matcher_endsOf_9 D R K1
  [(119, V.int IntKind.i64 x1190), (118, V.int IntKind.i64 x1180), (0, V.ptr m_b0 m_i0), (4, V.ptr n_b0 n_i0), (2, V.sl next_b0 next_i0 next_n0 next_c0)] H0) := (hD _ _ _ _ _ _).trans (by kernel_rfl)
theorem J_impl_matcher_endsOf_11_eq (hD : IsD 155 [6] D) {m_b0 m_i0 from_b0 from_i0 from_n0 : Nat} {from_c0 : Cap} {n_b0 n_i0 : Nat} {H0 : AH} : J_impl_matcher_endsOf_11 D R [(0, V.ptr m_b0 m_i0), (2, V.sl from_b0 from_i0 from_n0 from_c0), (4, V.ptr n_b0 n_i0)] H0 = (
  ld H0 n_b0 (n_i0 + 2) fun v0 =>
  asSl v0 fun b0 i0 n0 c0 =>
    inB 0 n0 ∧
      ld H0 b0 i0 fun v1 =>
        asInt IntKind.i64 v1 fun n1 =>
          ld H0 n_b0 (n_i0 + 4) fun v2 =>
            asInt IntKind.i64 v2 fun n2 =>
              ld H0 n_b0 (n_i0 + 3) fun v3 =>
                asInt IntKind.i64 v3 fun n3 =>
                  CallsA prog impl_matcher_repeat [V.ptr m_b0 m_i0, V.int IntKind.i64 n1, V.sl from_b0 from_i0 from_n0 from_c0, V.int IntKind.i64 (IntKind.i64.wrap (n2 - n3))] H0 fun v4 H1 =>
                    asSl v4 fun b1 i1 n4 c1 => R (V.sl b1 i1 n4 c1) H1) := (hD _ _ _ _ _ _).trans (by kernel_rfl)
theorem J_impl_matcher_endsOf_9_eq (hD : IsD 155 [6] D) {x1190 x1180 : Int} {m_b0 m_i0 n_b0 n_i0 from_b0 from_i0 from_n0 : Nat} {from_c0 : Cap} {H0 : AH} : J_impl_matcher_endsOf_9 D R K1 [(119, V.int IntKind.i64 x1190), (118, V.int IntKind.i64 x1180), (0, V.ptr m_b0 m_i0), (4, V.ptr n_b0 n_i0), (2, V.sl from_b0 from_i0 from_n0 from_c0)] H0 = (
  K1 [(118, V.int IntKind.i64 x1180), (119, V.int IntKind.i64 (IntKind.i64.wrap (x1190 + 1))), (0, V.ptr m_b0 m_i0), (4, V.ptr n_b0 n_i0), (2, V.sl from_b0 from_i0 from_n0 from_c0)] H0) := (hD _ _ _ _ _ _).trans (by kernel_rfl)

/-! ### internal_strconv_formatBits -/
noncomputable def internal_strconv_formatBits_b : Code := (Go.Proofs.Tryd.f76.body).getD .skip
noncomputable abbrev internal_strconv_formatBits_p (R : V → AH → Prop) : APost := postK prog (Go.Proofs.Tryd.f76.results.toList) R
def J_internal_strconv_formatBits_1 (D : Den) (R : V → AH → Prop) (env : Env) (H : AH) : Prop := D (cAt [1, 1] internal_strconv_formatBits_b) [] [] env H (internal_strconv_formatBits_p R)
def J_internal_strconv_formatBits_2 (D : Den) (R : V → AH → Prop) (env : Env) (H : AH) : Prop := D (cAt [1, 0, 1] internal_strconv_formatBits_b) [] [1, 2, 11, 0, 10, 4, 3] env H (seqQ (fun e H => J_internal_strconv_formatBits_1 D R (keepE e [1, 2, 11, 0, 10, 4, 3]) H) (internal_strconv_formatBits_p R))
def J_internal_strconv_formatBits_3 (D : Den) (R : V → AH → Prop) (env : Env) (H : AH) : Prop := D (cAt [1, 1, 1, 1, 1] internal_strconv_formatBits_b) [] [] env H (internal_strconv_formatBits_p R)
def J_internal_strconv_formatBits_4 (D : Den) (R : V → AH → Prop) (env : Env) (H : AH) : Prop := D (cAt [1, 1, 1, 1, 1, 1] internal_strconv_formatBits_b) [] [] env H (internal_strconv_formatBits_p R)
def J_internal_strconv_formatBits_5 (D : Den) (R : V → AH → Prop) (env : Env) (H : AH) : Prop := D (cAt [1, 1, 1, 1, 1, 0, 1, 0, 1, 1, 1, 1] internal_strconv_formatBits_b) [] [3, 13, 4, 10, 0, 12, 11] env H (seqQ (fun e H => J_internal_strconv_formatBits_4 D R (keepE e [3, 13, 4, 10, 0, 12, 11]) H) (internal_strconv_formatBits_p R))
def L_internal_strconv_formatBits_6 (D : Den) (R : V → AH → Prop) (env : Env) (H : AH) (K1 : Env → AH → Prop) : Prop := D (cAt [1, 1, 1, 1, 1, 0, 1, 0, 1, 1, 1, 0, 0, 0] internal_strconv_formatBits_b) [(0, [13, 1, 3, 4, 10, 0, 12, 11])] [13, 1, 15, 11, 0, 10, 4, 3, 16, 12, 14] env H (seqQ (fun e H => K1 (keepE e [13, 1, 15, 11, 0, 10, 4, 3, 16, 12, 14]) H) (blockQ 0 (seqQ (fun e H => J_internal_strconv_formatBits_5 D R (keepE e [13, 1, 3, 4, 10, 0, 12, 11]) H) (seqQ (fun e H => J_internal_strconv_formatBits_4 D R (keepE e [3, 13, 4, 10, 0, 12, 11]) H) (internal_strconv_formatBits_p R)))))
def J_internal_strconv_formatBits_7 (D : Den) (R : V → AH → Prop) (env : Env) (H : AH) : Prop := D (cAt [1, 1, 1, 1, 1, 0, 1, 1, 1, 1] internal_strconv_formatBits_b) [] [3, 13, 4, 10, 0, 12, 11] env H (seqQ (fun e H => J_internal_strconv_formatBits_4 D R (keepE e [3, 13, 4, 10, 0, 12, 11]) H) (internal_strconv_formatBits_p R))
def L_internal_strconv_formatBits_8 (D : Den) (R : V → AH → Prop) (env : Env) (H : AH) (K1 : Env → AH → Prop) : Prop := D (cAt [1, 1, 1, 1, 1, 0, 1, 1, 1, 0, 0, 0] internal_strconv_formatBits_b) [(2, [13, 1, 3, 4, 10, 0, 12, 11])] [13, 1, 11, 0, 10, 4, 3, 17, 12] env H (seqQ (fun e H => K1 (keepE e [13, 1, 11, 0, 10, 4, 3, 17, 12]) H) (blockQ 2 (seqQ (fun e H => J_internal_strconv_formatBits_7 D R (keepE e [13, 1, 3, 4, 10, 0, 12, 11]) H) (seqQ (fun e H => J_internal_strconv_formatBits_4 D R (keepE e [3, 13, 4, 10, 0, 12, 11]) H) (internal_strconv_formatBits_p R)))))
def J_internal_strconv_formatBits_9 (D : Den) (R : V → AH → Prop) (K1 : Env → AH → Prop) (env : Env) (H : AH) : Prop := D (cAt [1, 1, 1, 1, 1, 0, 1, 0, 1, 1, 1, 0, 0, 0, 1] internal_strconv_formatBits_b) [(0, [13, 1, 3, 4, 10, 0, 12, 11])] [13, 1, 15, 11, 0, 10, 4, 3, 16, 12, 14] env H (seqQ (fun e H => K1 (keepE e [13, 1, 15, 11, 0, 10, 4, 3, 16, 12, 14]) H) (blockQ 0 (seqQ (fun e H => J_internal_strconv_formatBits_5 D R (keepE e [13, 1, 3, 4, 10, 0, 12, 11]) H) (seqQ (fun e H => J_internal_strconv_formatBits_4 D R (keepE e [3, 13, 4, 10, 0, 12, 11]) H) (internal_strconv_formatBits_p R)))))
def J_internal_strconv_formatBits_10 (D : Den) (R : V → AH → Prop) (K1 : Env → AH → Prop) (env : Env) (H : AH) : Prop := D (cAt [1, 1, 1, 1, 1, 0, 1, 1, 1, 0, 0, 0, 1] internal_strconv_formatBits_b) [(2, [13, 1, 3, 4, 10, 0, 12, 11])] [13, 1, 11, 0, 10, 4, 3, 17, 12] env H (seqQ (fun e H => K1 (keepE e [13, 1, 11, 0, 10, 4, 3, 17, 12]) H) (blockQ 2 (seqQ (fun e H => J_internal_strconv_formatBits_7 D R (keepE e [13, 1, 3, 4, 10, 0, 12, 11]) H) (seqQ (fun e H => J_internal_strconv_formatBits_4 D R (keepE e [3, 13, 4, 10, 0, 12, 11]) H) (internal_strconv_formatBits_p R)))))
def J_internal_strconv_formatBits_11 (D : Den) (R : V → AH → Prop) (env : Env) (H : AH) : Prop := D (cAt [1, 1, 1, 1, 1, 1, 1] internal_strconv_formatBits_b) [] [] env H (internal_strconv_formatBits_p R)
def J_internal_strconv_formatBits_12 (D : Den) (R : V → AH → Prop) (env : Env) (H : AH) : Prop := D (cAt [1, 1, 1, 1, 1, 1, 1, 1] internal_strconv_formatBits_b) [] [] env H (internal_strconv_formatBits_p R)
theorem internal_strconv_formatBits_in {args : List V} {H : AH} {R : V → AH → Prop} (h : ∀ D, IsD 102 [10, 11] D → D internal_strconv_formatBits_b [] [] (argEnv 0 args) H (internal_strconv_formatBits_p R)) (hn : args.length ≤ 102 := by exact of_decide_eq_true rfl) : CallsA prog internal_strconv_formatBits args H R := callsD_of Go.Proofs.Tryd.func76 (by kernel_rfl) (by kernel_rfl) (by kernel_rfl) (enters_of Go.Proofs.Tryd.func76 (by kernel_rfl) rfl) hn h
theorem internal_strconv_formatBits_eq (hD : IsD 102 [10, 11] D) {dst_b0 dst_i0 dst_n0 : Nat} {dst_c0 : Cap} {u0 base0 : Int} {neg0 append_0 : Bool} {H0 : AH} : D internal_strconv_formatBits_b [] [] (argEnv 0 [V.sl dst_b0 dst_i0 dst_n0 dst_c0, V.int IntKind.u64 u0, V.int IntKind.i64 base0, V.bool neg0, V.bool append_0]) H0 (internal_strconv_formatBits_p R) = (
  splitB (decide (base0 < 2))
  (J_internal_strconv_formatBits_2 D R
    [(28, V.bool true), (1, V.int IntKind.u64 u0), (2, V.int IntKind.i64 base0), (11, V.str []), (0, V.sl dst_b0 dst_i0 dst_n0 dst_c0), (10, V.sl 0 0 0 Cap.nil), (4, V.bool append_0),
      (3, V.bool neg0)]
    H0)
  (splitB (base0 == 10)
    (J_internal_strconv_formatBits_2 D R
      [(28, V.bool true), (1, V.int IntKind.u64 u0), (2, V.int IntKind.i64 base0), (11, V.str []), (0, V.sl dst_b0 dst_i0 dst_n0 dst_c0), (10, V.sl 0 0 0 Cap.nil), (4, V.bool append_0),
        (3, V.bool neg0)]
      H0)
    (J_internal_strconv_formatBits_2 D R
      [(28, V.bool (decide (base0 > 36))), (1, V.int IntKind.u64 u0), (2, V.int IntKind.i64 base0), (11, V.str []), (0, V.sl dst_b0 dst_i0 dst_n0 dst_c0), (10, V.sl 0 0 0 Cap.nil),
        (4, V.bool append_0), (3, V.bool neg0)]
      H0))) := (hD _ _ _ _ _ _).trans (by kernel_rfl)
theorem J_internal_strconv_formatBits_2_eq (hD : IsD 102 [10, 11] D) {x280 : Bool} {u0 base0 : Int} {s0 : List UInt8} {dst_b0 dst_i0 dst_n0 : Nat} {dst_c0 : Cap} {d_b0 d_i0 d_n0 : Nat} {d_c0 : Cap} {append_0 neg0 : Bool} {H0 : AH} : J_internal_strconv_formatBits_2 D R [(28, V.bool x280), (1, V.int IntKind.u64 u0), (2, V.int IntKind.i64 base0), (11, V.str s0), (0, V.sl dst_b0 dst_i0 dst_n0 dst_c0), (10, V.sl d_b0 d_i0 d_n0 d_c0), (4, V.bool append_0),
  (3, V.bool neg0)] H0 = (
  splitB x280 False
  (J_internal_strconv_formatBits_1 D R
    [(1, V.int IntKind.u64 u0), (2, V.int IntKind.i64 base0), (11, V.str s0), (0, V.sl dst_b0 dst_i0 dst_n0 dst_c0), (10, V.sl d_b0 d_i0 d_n0 d_c0), (4, V.bool append_0), (3, V.bool neg0)] H0)) := (hD _ _ _ _ _ _).trans (by kernel_rfl)
theorem J_internal_strconv_formatBits_1_eq (hD : IsD 102 [10, 11] D) {u0 base0 : Int} {s0 : List UInt8} {dst_b0 dst_i0 dst_n0 : Nat} {dst_c0 : Cap} {d_b0 d_i0 d_n0 : Nat} {d_c0 : Cap} {append_0 neg0 : Bool} {H0 : AH} : J_internal_strconv_formatBits_1 D R [(1, V.int IntKind.u64 u0), (2, V.int IntKind.i64 base0), (11, V.str s0), (0, V.sl dst_b0 dst_i0 dst_n0 dst_c0), (10, V.sl d_b0 d_i0 d_n0 d_c0), (4, V.bool append_0), (3, V.bool neg0)] H0 = (
  splitB neg0
  (J_internal_strconv_formatBits_3 D R
    [(2, V.int IntKind.i64 base0), (13, V.int IntKind.i64 65), (1, V.int IntKind.u64 (IntKind.u64.wrap (0 - u0))), (11, V.str s0), (0, V.sl dst_b0 dst_i0 dst_n0 dst_c0),
      (10, V.sl d_b0 d_i0 d_n0 d_c0), (4, V.bool append_0), (3, V.bool neg0), (12, V.ptr (List.length H0) 0)]
    (H0 ++ [Blk.cells (List.replicate 65 (V.int IntKind.u8 0)) false]))
  (J_internal_strconv_formatBits_3 D R
    [(2, V.int IntKind.i64 base0), (13, V.int IntKind.i64 65), (1, V.int IntKind.u64 u0), (11, V.str s0), (0, V.sl dst_b0 dst_i0 dst_n0 dst_c0), (10, V.sl d_b0 d_i0 d_n0 d_c0), (4, V.bool append_0),
      (3, V.bool neg0), (12, V.ptr (List.length H0) 0)]
    (H0 ++ [Blk.cells (List.replicate 65 (V.int IntKind.u8 0)) false]))) := (hD _ _ _ _ _ _).trans (by kernel_rfl)
theorem J_internal_strconv_formatBits_3_eq (hD : IsD 102 [10, 11] D) {base0 i0 u0 : Int} {s0 : List UInt8} {dst_b0 dst_i0 dst_n0 : Nat} {dst_c0 : Cap} {d_b0 d_i0 d_n0 : Nat} {d_c0 : Cap} {append_0 neg0 : Bool} {a_b0 a_i0 : Nat} {H0 : AH} : J_internal_strconv_formatBits_3 D R [(2, V.int IntKind.i64 base0), (13, V.int IntKind.i64 i0), (1, V.int IntKind.u64 u0), (11, V.str s0), (0, V.sl dst_b0 dst_i0 dst_n0 dst_c0), (10, V.sl d_b0 d_i0 d_n0 d_c0), (4, V.bool append_0),
  (3, V.bool neg0), (12, V.ptr a_b0 a_i0)] H0 = (
  CallsA prog internal_strconv_isPowerOfTwo [V.int IntKind.i64 base0] H0 fun v0 H1 =>
  asBool v0 fun t0 =>
    splitB t0
      (CallsA prog math_bits_TrailingZeros [V.int IntKind.u64 (IntKind.u64.wrap base0)] H1 fun v1 H2 =>
        asInt IntKind.i64 v1 fun n0 =>
          LoopI (L_internal_strconv_formatBits_6 D R)
            [(13, V.int IntKind.i64 i0), (1, V.int IntKind.u64 u0), (15, V.int IntKind.u64 (IntKind.u64.wrap base0)), (11, V.str s0), (0, V.sl dst_b0 dst_i0 dst_n0 dst_c0),
              (10, V.sl d_b0 d_i0 d_n0 d_c0), (4, V.bool append_0), (3, V.bool neg0), (16, V.int IntKind.u64 (IntKind.u64.wrap (IntKind.u64.wrap base0 - 1))), (12, V.ptr a_b0 a_i0),
              (14, V.int IntKind.u64 (IntKind.u64.wrap n0))]
            H2)
      (LoopI (L_internal_strconv_formatBits_8 D R)
        [(13, V.int IntKind.i64 i0), (1, V.int IntKind.u64 u0), (11, V.str s0), (0, V.sl dst_b0 dst_i0 dst_n0 dst_c0), (10, V.sl d_b0 d_i0 d_n0 d_c0), (4, V.bool append_0), (3, V.bool neg0),
          (17, V.int IntKind.u64 (IntKind.u64.wrap base0)), (12, V.ptr a_b0 a_i0)]
        H1)) := (hD _ _ _ _ _ _).trans (by kernel_rfl)
theorem L_internal_strconv_formatBits_6_eq (hD : IsD 102 [10, 11] D) {i0 u0 b0 : Int} {s0 : List UInt8} {dst_b0 dst_i0 dst_n0 : Nat} {dst_c0 : Cap} {d_b0 d_i0 d_n0 : Nat} {d_c0 : Cap} {append_0 neg0 : Bool} {m0 : Int} {a_b0 a_i0 : Nat} {shift0 : Int} {H0 : AH} : L_internal_strconv_formatBits_6 D R [(13, V.int IntKind.i64 i0), (1, V.int IntKind.u64 u0), (15, V.int IntKind.u64 b0), (11, V.str s0), (0, V.sl dst_b0 dst_i0 dst_n0 dst_c0), (10, V.sl d_b0 d_i0 d_n0 d_c0), (4, V.bool append_0),
  (3, V.bool neg0), (16, V.int IntKind.u64 m0), (12, V.ptr a_b0 a_i0), (14, V.int IntKind.u64 shift0)] H0 K1 = (
  splitB (decide (u0 ≥ b0))
  (J_internal_strconv_formatBits_9 D R K1
    [(13, V.int IntKind.i64 i0), (1, V.int IntKind.u64 u0), (15, V.int IntKind.u64 b0), (11, V.str s0), (0, V.sl dst_b0 dst_i0 dst_n0 dst_c0), (10, V.sl d_b0 d_i0 d_n0 d_c0), (4, V.bool append_0),
      (3, V.bool neg0), (16, V.int IntKind.u64 m0), (12, V.ptr a_b0 a_i0), (14, V.int IntKind.u64 shift0)]
    H0)
  (J_internal_strconv_formatBits_5 D R
    [(13, V.int IntKind.i64 i0), (1, V.int IntKind.u64 u0), (3, V.bool neg0), (4, V.bool append_0), (10, V.sl d_b0 d_i0 d_n0 d_c0), (0, V.sl dst_b0 dst_i0 dst_n0 dst_c0), (12, V.ptr a_b0 a_i0),
      (11, V.str s0)]
    H0)) := (hD _ _ _ _ _ _).trans (by kernel_rfl)
theorem L_internal_strconv_formatBits_8_eq (hD : IsD 102 [10, 11] D) {i0 u0 : Int} {s0 : List UInt8} {dst_b0 dst_i0 dst_n0 : Nat} {dst_c0 : Cap} {d_b0 d_i0 d_n0 : Nat} {d_c0 : Cap} {append_0 neg0 : Bool} {b0 : Int} {a_b0 a_i0 : Nat} {H0 : AH} : L_internal_strconv_formatBits_8 D R [(13, V.int IntKind.i64 i0), (1, V.int IntKind.u64 u0), (11, V.str s0), (0, V.sl dst_b0 dst_i0 dst_n0 dst_c0), (10, V.sl d_b0 d_i0 d_n0 d_c0), (4, V.bool append_0), (3, V.bool neg0),
  (17, V.int IntKind.u64 b0), (12, V.ptr a_b0 a_i0)] H0 K1 = (
  splitB (decide (u0 ≥ b0))
  (J_internal_strconv_formatBits_10 D R K1
    [(13, V.int IntKind.i64 i0), (1, V.int IntKind.u64 u0), (11, V.str s0), (0, V.sl dst_b0 dst_i0 dst_n0 dst_c0), (10, V.sl d_b0 d_i0 d_n0 d_c0), (4, V.bool append_0), (3, V.bool neg0),
      (17, V.int IntKind.u64 b0), (12, V.ptr a_b0 a_i0)]
    H0)
  (J_internal_strconv_formatBits_7 D R
    [(13, V.int IntKind.i64 i0), (1, V.int IntKind.u64 u0), (3, V.bool neg0), (4, V.bool append_0), (10, V.sl d_b0 d_i0 d_n0 d_c0), (0, V.sl dst_b0 dst_i0 dst_n0 dst_c0), (12, V.ptr a_b0 a_i0),
      (11, V.str s0)]
    H0)) := (hD _ _ _ _ _ _).trans (by kernel_rfl)
theorem J_internal_strconv_formatBits_9_eq (hD : IsD 102 [10, 11] D) {i0 u0 b0 : Int} {s0 : List UInt8} {dst_b0 dst_i0 dst_n0 : Nat} {dst_c0 : Cap} {d_b0 d_i0 d_n0 : Nat} {d_c0 : Cap} {append_0 neg0 : Bool} {m0 : Int} {a_b0 a_i0 : Nat} {shift0 : Int} {H0 : AH} : J_internal_strconv_formatBits_9 D R K1 [(13, V.int IntKind.i64 i0), (1, V.int IntKind.u64 u0), (15, V.int IntKind.u64 b0), (11, V.str s0), (0, V.sl dst_b0 dst_i0 dst_n0 dst_c0), (10, V.sl d_b0 d_i0 d_n0 d_c0), (4, V.bool append_0),
  (3, V.bool neg0), (16, V.int IntKind.u64 m0), (12, V.ptr a_b0 a_i0), (14, V.int IntKind.u64 shift0)] H0 = (
  inB (IntKind.u64.wrap (↑(BitVec.ofInt 64 u0 &&& BitVec.ofInt 64 m0).toNat : Int)) 36 ∧
  inB (IntKind.i64.wrap (i0 - 1)) 65 ∧
    stK H0 a_b0 (a_i0 + (IntKind.i64.wrap (i0 - 1)).toNat * 1)
      [V.int IntKind.u8
          (↑(byteAt [48, 49, 50, 51, 52, 53, 54, 55, 56, 57, 97, 98, 99, 100, 101, 102, 103, 104, 105, 106, 107, 108, 109, 110, 111, 112, 113, 114, 115, 116, 117, 118, 119, 120, 121, 122]
                  (IntKind.u64.wrap (↑(BitVec.ofInt 64 u0 &&& BitVec.ofInt 64 m0).toNat : Int))).toNat :
            Int)]
      fun H1 =>
      nn shift0 ∧
        K1
          [(13, V.int IntKind.i64 (IntKind.i64.wrap (i0 - 1))), (1, V.int IntKind.u64 (shrI IntKind.u64 u0 shift0)), (15, V.int IntKind.u64 b0), (11, V.str s0), (0, V.sl dst_b0 dst_i0 dst_n0 dst_c0),
            (10, V.sl d_b0 d_i0 d_n0 d_c0), (4, V.bool append_0), (3, V.bool neg0), (16, V.int IntKind.u64 m0), (12, V.ptr a_b0 a_i0), (14, V.int IntKind.u64 shift0)]
          H1) := (hD _ _ _ _ _ _).trans (by kernel_rfl)
theorem J_internal_strconv_formatBits_5_eq (hD : IsD 102 [10, 11] D) {i0 u0 : Int} {neg0 append_0 : Bool} {d_b0 d_i0 d_n0 : Nat} {d_c0 : Cap} {dst_b0 dst_i0 dst_n0 : Nat} {dst_c0 : Cap} {a_b0 a_i0 : Nat} {s0 : List UInt8} {H0 : AH} : J_internal_strconv_formatBits_5 D R [(13, V.int IntKind.i64 i0), (1, V.int IntKind.u64 u0), (3, V.bool neg0), (4, V.bool append_0), (10, V.sl d_b0 d_i0 d_n0 d_c0), (0, V.sl dst_b0 dst_i0 dst_n0 dst_c0), (12, V.ptr a_b0 a_i0),
  (11, V.str s0)] H0 = (
  inB u0 36 ∧
  inB (IntKind.i64.wrap (i0 - 1)) 65 ∧
    stK H0 a_b0 (a_i0 + (IntKind.i64.wrap (i0 - 1)).toNat * 1)
      [V.int IntKind.u8
          (↑(byteAt [48, 49, 50, 51, 52, 53, 54, 55, 56, 57, 97, 98, 99, 100, 101, 102, 103, 104, 105, 106, 107, 108, 109, 110, 111, 112, 113, 114, 115, 116, 117, 118, 119, 120, 121, 122] u0).toNat :
            Int)]
      fun H1 =>
      J_internal_strconv_formatBits_4 D R
        [(3, V.bool neg0), (13, V.int IntKind.i64 (IntKind.i64.wrap (i0 - 1))), (4, V.bool append_0), (10, V.sl d_b0 d_i0 d_n0 d_c0), (0, V.sl dst_b0 dst_i0 dst_n0 dst_c0), (12, V.ptr a_b0 a_i0),
          (11, V.str s0)]
        H1) := (hD _ _ _ _ _ _).trans (by kernel_rfl)
theorem J_internal_strconv_formatBits_10_eq (hD : IsD 102 [10, 11] D) {i0 u0 : Int} {s0 : List UInt8} {dst_b0 dst_i0 dst_n0 : Nat} {dst_c0 : Cap} {d_b0 d_i0 d_n0 : Nat} {d_c0 : Cap} {append_0 neg0 : Bool} {b0 : Int} {a_b0 a_i0 : Nat} {H0 : AH} : J_internal_strconv_formatBits_10 D R K1 [(13, V.int IntKind.i64 i0), (1, V.int IntKind.u64 u0), (11, V.str s0), (0, V.sl dst_b0 dst_i0 dst_n0 dst_c0), (10, V.sl d_b0 d_i0 d_n0 d_c0), (4, V.bool append_0), (3, V.bool neg0),
  (17, V.int IntKind.u64 b0), (12, V.ptr a_b0 a_i0)] H0 = (
  nz b0 ∧
  inB (IntKind.u64.wrap (u0 - IntKind.u64.wrap (IntKind.u64.wrap (u0.tdiv b0) * b0))) 36 ∧
    inB (IntKind.i64.wrap (i0 - 1)) 65 ∧
      stK H0 a_b0 (a_i0 + (IntKind.i64.wrap (i0 - 1)).toNat * 1)
        [V.int IntKind.u8
            (↑(byteAt [48, 49, 50, 51, 52, 53, 54, 55, 56, 57, 97, 98, 99, 100, 101, 102, 103, 104, 105, 106, 107, 108, 109, 110, 111, 112, 113, 114, 115, 116, 117, 118, 119, 120, 121, 122]
                    (IntKind.u64.wrap (u0 - IntKind.u64.wrap (IntKind.u64.wrap (u0.tdiv b0) * b0)))).toNat :
              Int)]
        fun H1 =>
        K1
          [(13, V.int IntKind.i64 (IntKind.i64.wrap (i0 - 1))), (1, V.int IntKind.u64 (IntKind.u64.wrap (u0.tdiv b0))), (11, V.str s0), (0, V.sl dst_b0 dst_i0 dst_n0 dst_c0),
            (10, V.sl d_b0 d_i0 d_n0 d_c0), (4, V.bool append_0), (3, V.bool neg0), (17, V.int IntKind.u64 b0), (12, V.ptr a_b0 a_i0)]
          H1) := (hD _ _ _ _ _ _).trans (by kernel_rfl)
theorem J_internal_strconv_formatBits_7_eq (hD : IsD 102 [10, 11] D) {i0 u0 : Int} {neg0 append_0 : Bool} {d_b0 d_i0 d_n0 : Nat} {d_c0 : Cap} {dst_b0 dst_i0 dst_n0 : Nat} {dst_c0 : Cap} {a_b0 a_i0 : Nat} {s0 : List UInt8} {H0 : AH} : J_internal_strconv_formatBits_7 D R [(13, V.int IntKind.i64 i0), (1, V.int IntKind.u64 u0), (3, V.bool neg0), (4, V.bool append_0), (10, V.sl d_b0 d_i0 d_n0 d_c0), (0, V.sl dst_b0 dst_i0 dst_n0 dst_c0), (12, V.ptr a_b0 a_i0),
  (11, V.str s0)] H0 = (
  inB u0 36 ∧
  inB (IntKind.i64.wrap (i0 - 1)) 65 ∧
    stK H0 a_b0 (a_i0 + (IntKind.i64.wrap (i0 - 1)).toNat * 1)
      [V.int IntKind.u8
          (↑(byteAt [48, 49, 50, 51, 52, 53, 54, 55, 56, 57, 97, 98, 99, 100, 101, 102, 103, 104, 105, 106, 107, 108, 109, 110, 111, 112, 113, 114, 115, 116, 117, 118, 119, 120, 121, 122] u0).toNat :
            Int)]
      fun H1 =>
      J_internal_strconv_formatBits_4 D R
        [(3, V.bool neg0), (13, V.int IntKind.i64 (IntKind.i64.wrap (i0 - 1))), (4, V.bool append_0), (10, V.sl d_b0 d_i0 d_n0 d_c0), (0, V.sl dst_b0 dst_i0 dst_n0 dst_c0), (12, V.ptr a_b0 a_i0),
          (11, V.str s0)]
        H1) := (hD _ _ _ _ _ _).trans (by kernel_rfl)
theorem J_internal_strconv_formatBits_4_eq (hD : IsD 102 [10, 11] D) {neg0 : Bool} {i0 : Int} {append_0 : Bool} {d_b0 d_i0 d_n0 : Nat} {d_c0 : Cap} {dst_b0 dst_i0 dst_n0 : Nat} {dst_c0 : Cap} {a_b0 a_i0 : Nat} {s0 : List UInt8} {H0 : AH} : J_internal_strconv_formatBits_4 D R [(3, V.bool neg0), (13, V.int IntKind.i64 i0), (4, V.bool append_0), (10, V.sl d_b0 d_i0 d_n0 d_c0), (0, V.sl dst_b0 dst_i0 dst_n0 dst_c0), (12, V.ptr a_b0 a_i0), (11, V.str s0)] H0 = (
  splitB neg0
  (inB (IntKind.i64.wrap (i0 - 1)) 65 ∧
    stK H0 a_b0 (a_i0 + (IntKind.i64.wrap (i0 - 1)).toNat * 1) [V.int IntKind.u8 45] fun H1 =>
      J_internal_strconv_formatBits_11 D R
        [(4, V.bool append_0), (10, V.sl d_b0 d_i0 d_n0 d_c0), (0, V.sl dst_b0 dst_i0 dst_n0 dst_c0), (13, V.int IntKind.i64 (IntKind.i64.wrap (i0 - 1))), (12, V.ptr a_b0 a_i0), (11, V.str s0)] H1)
  (J_internal_strconv_formatBits_11 D R
    [(4, V.bool append_0), (10, V.sl d_b0 d_i0 d_n0 d_c0), (0, V.sl dst_b0 dst_i0 dst_n0 dst_c0), (13, V.int IntKind.i64 i0), (12, V.ptr a_b0 a_i0), (11, V.str s0)] H0)) := (hD _ _ _ _ _ _).trans (by kernel_rfl)
theorem J_internal_strconv_formatBits_11_eq (hD : IsD 102 [10, 11] D) {append_0 : Bool} {d_b0 d_i0 d_n0 : Nat} {d_c0 : Cap} {dst_b0 dst_i0 dst_n0 : Nat} {dst_c0 : Cap} {i0 : Int} {a_b0 a_i0 : Nat} {s0 : List UInt8} {H0 : AH} : J_internal_strconv_formatBits_11 D R [(4, V.bool append_0), (10, V.sl d_b0 d_i0 d_n0 d_c0), (0, V.sl dst_b0 dst_i0 dst_n0 dst_c0), (13, V.int IntKind.i64 i0), (12, V.ptr a_b0 a_i0), (11, V.str s0)] H0 = (
  splitB append_0
  (inS i0 65 65 ∧
    capFit (Cap.ex 65) 1 ∧
      cellsK H0 a_b0 (a_i0 + i0.toNat * 1) ((65 - i0).toNat * 1) fun l0 => app H0 1 1 dst_b0 dst_i0 dst_n0 dst_c0 (65 - i0).toNat l0 fun b0 i1 n0 c0 H1 => R (V.tup [V.sl b0 i1 n0 c0, V.str s0]) H1)
  (J_internal_strconv_formatBits_12 D R [(13, V.int IntKind.i64 i0), (12, V.ptr a_b0 a_i0), (10, V.sl d_b0 d_i0 d_n0 d_c0)] H0)) := (hD _ _ _ _ _ _).trans (by kernel_rfl)
theorem J_internal_strconv_formatBits_12_eq (hD : IsD 102 [10, 11] D) {i0 : Int} {a_b0 a_i0 d_b0 d_i0 d_n0 : Nat} {d_c0 : Cap} {H0 : AH} : J_internal_strconv_formatBits_12 D R [(13, V.int IntKind.i64 i0), (12, V.ptr a_b0 a_i0), (10, V.sl d_b0 d_i0 d_n0 d_c0)] H0 = (
  inS i0 65 65 ∧ capFit (Cap.ex 65) 1 ∧ strK H0 a_b0 (a_i0 + i0.toNat * 1) (65 - i0).toNat fun s0 => R (V.tup [V.sl d_b0 d_i0 d_n0 d_c0, V.str s0]) H0) := (hD _ _ _ _ _ _).trans (by kernel_rfl)

/-! ### laws_FnBegins -/
noncomputable def laws_FnBegins_b : Code := (Go.Proofs.Tryd.f3.body).getD .skip
noncomputable abbrev laws_FnBegins_p (R : V → AH → Prop) : APost := postK prog (Go.Proofs.Tryd.f3.results.toList) R
def J_laws_FnBegins_1 (D : Den) (R : V → AH → Prop) (env : Env) (H : AH) : Prop := D (cAt [1, 1] laws_FnBegins_b) [] [] env H (laws_FnBegins_p R)
def J_laws_FnBegins_2 (D : Den) (R : V → AH → Prop) (env : Env) (H : AH) : Prop := D (cAt [1, 1, 1, 1, 1, 1] laws_FnBegins_b) [] [] env H (laws_FnBegins_p R)
def J_laws_FnBegins_3 (D : Den) (R : V → AH → Prop) (env : Env) (H : AH) : Prop := D (cAt [1, 1, 1, 1, 1, 1, 1, 1] laws_FnBegins_b) [] [] env H (laws_FnBegins_p R)
def L_laws_FnBegins_4 (D : Den) (R : V → AH → Prop) (env : Env) (H : AH) (K1 : Env → AH → Prop) : Prop := D (cAt [1, 1, 1, 1, 1, 1, 1, 0, 1, 0, 0] laws_FnBegins_b) [(0, [7, 3, 4, 5])] [3, 7, 8, 4, 5, 9] env H (seqQ (fun e H => K1 (keepE e [3, 7, 8, 4, 5, 9]) H) (blockQ 0 (seqQ (fun e H => J_laws_FnBegins_3 D R (keepE e [7, 3, 4, 5]) H) (laws_FnBegins_p R))))
def J_laws_FnBegins_5 (D : Den) (R : V → AH → Prop) (K1 : Env → AH → Prop) (env : Env) (H : AH) : Prop := D (cAt [1, 1, 1, 1, 1, 1, 1, 0, 1, 0, 0, 1] laws_FnBegins_b) [(0, [7, 3, 4, 5])] [3, 7, 8, 4, 5, 9] env H (seqQ (fun e H => K1 (keepE e [3, 7, 8, 4, 5, 9]) H) (blockQ 0 (seqQ (fun e H => J_laws_FnBegins_3 D R (keepE e [7, 3, 4, 5]) H) (laws_FnBegins_p R))))
def J_laws_FnBegins_6 (D : Den) (R : V → AH → Prop) (K1 : Env → AH → Prop) (env : Env) (H : AH) : Prop := D (cAt [1, 1, 1, 1, 1, 1, 1, 0, 1, 0, 0, 1, 1] laws_FnBegins_b) [(0, [7, 3, 4, 5])] [3, 7, 8, 4, 5, 9] env H (seqQ (fun e H => K1 (keepE e [3, 7, 8, 4, 5, 9]) H) (blockQ 0 (seqQ (fun e H => J_laws_FnBegins_3 D R (keepE e [7, 3, 4, 5]) H) (laws_FnBegins_p R))))
def J_laws_FnBegins_7 (D : Den) (R : V → AH → Prop) (K1 : Env → AH → Prop) (env : Env) (H : AH) : Prop := D (cAt [1, 1, 1, 1, 1, 1, 1, 0, 1, 0, 0, 1, 0, 0, 1] laws_FnBegins_b) [(1, [9, 3, 7, 8, 4, 5]), (0, [7, 3, 4, 5])] [9, 3, 7, 8, 4, 5] env H (blockQ 1 (seqQ (fun e H => J_laws_FnBegins_6 D R K1 (keepE e [9, 3, 7, 8, 4, 5]) H) (seqQ (fun e H => K1 (keepE e [3, 7, 8, 4, 5, 9]) H) (blockQ 0 (seqQ (fun e H => J_laws_FnBegins_3 D R (keepE e [7, 3, 4, 5]) H) (laws_FnBegins_p R))))))
def J_laws_FnBegins_8 (D : Den) (R : V → AH → Prop) (env : Env) (H : AH) : Prop := D (cAt [1, 1, 1, 1, 1, 1, 1, 1, 1] laws_FnBegins_b) [] [] env H (laws_FnBegins_p R)
theorem laws_FnBegins_in {args : List V} {H : AH} {R : V → AH → Prop} (h : ∀ D, IsD 95 [2] D → D laws_FnBegins_b [] [] (argEnv 0 args) H (laws_FnBegins_p R)) (hn : args.length ≤ 95 := by exact of_decide_eq_true rfl) : CallsA prog laws_FnBegins args H R := callsD_of Go.Proofs.Tryd.func3 (by kernel_rfl) (by kernel_rfl) (by kernel_rfl) (enters_of Go.Proofs.Tryd.func3 (by kernel_rfl) rfl) hn h
theorem laws_FnBegins_eq (hD : IsD 95 [2] D) {code_b0 code_i0 code_n0 : Nat} {code_c0 : Cap} {H0 : AH} : D laws_FnBegins_b [] [] (argEnv 0 [V.sl code_b0 code_i0 code_n0 code_c0]) H0 (laws_FnBegins_p R) = (
  CallsA prog laws_big [V.sl code_b0 code_i0 code_n0 code_c0] H0 fun v0 H1 =>
  asBool v0 fun t0 => splitB t0 (R (V.bool true) H1) (J_laws_FnBegins_1 D R [(0, V.sl code_b0 code_i0 code_n0 code_c0)] H1)) := (hD _ _ _ _ _ _).trans (by kernel_rfl)
theorem J_laws_FnBegins_1_eq (hD : IsD 95 [2] D) {code_b0 code_i0 code_n0 : Nat} {code_c0 : Cap} {H0 : AH} : J_laws_FnBegins_1 D R [(0, V.sl code_b0 code_i0 code_n0 code_c0)] H0 = (
  CallsA prog spec_DrawEndsAt [V.sl code_b0 code_i0 code_n0 code_c0] H0 fun v0 H1 =>
  asTup v0 fun l0 =>
    uncons l0 fun v1 l1 =>
      asAgg v1 fun l2 =>
        uncons l2 fun v2 l3 =>
          asSl v2 fun b0 i0 n0 c0 =>
            unnil l3
              (uncons l1 fun v3 l4 =>
                asStr v3 fun s0 =>
                  uncons l4 fun v4 l5 =>
                    asInt IntKind.i64 v4 fun n1 =>
                      unnil l5
                        (stK (H1 ++ [Blk.cells [V.sl 0 0 0 Cap.nil] false]) (List.length H1) 0 [V.sl b0 i0 n0 c0] fun H2 =>
                          ld H2 (List.length H1) 0 fun v5 =>
                            asSl v5 fun b1 i1 n2 c1 =>
                              CallsA prog spec_EndsAt [V.agg [V.sl b1 i1 n2 c1], V.str s0, V.int IntKind.i64 n1] H2 fun v6 H3 =>
                                asSl v6 fun b2 i2 n3 c2 =>
                                  ld H3 (List.length H1) 0 fun v7 =>
                                    asSl v7 fun b3 i3 n4 c3 =>
                                      CallsA prog impl_EndsAt [V.agg [V.sl b3 i3 n4 c3], V.str s0, V.int IntKind.i64 n1] H3 fun v8 H4 =>
                                        asSl v8 fun b4 i4 n5 c4 =>
                                          CallsA prog laws_sameInts [V.sl b4 i4 n5 c4, V.sl b2 i2 n3 c2] H4 fun v9 H5 =>
                                            asBool v9 fun t0 =>
                                              splitB (!t0) (R (V.bool false) H5)
                                                (J_laws_FnBegins_2 D R [(3, V.ptr (List.length H1) 0), (7, V.sl b4 i4 n5 c4), (4, V.str s0), (5, V.int IntKind.i64 n1)] H5)))) := (hD _ _ _ _ _ _).trans (by kernel_rfl)
theorem J_laws_FnBegins_2_eq (hD : IsD 95 [2] D) {x_b0 x_i0 ends_b0 ends_i0 ends_n0 : Nat} {ends_c0 : Cap} {text0 : List UInt8} {at0 : Int} {H0 : AH} : J_laws_FnBegins_2 D R [(3, V.ptr x_b0 x_i0), (7, V.sl ends_b0 ends_i0 ends_n0 ends_c0), (4, V.str text0), (5, V.int IntKind.i64 at0)] H0 = (
  ld H0 x_b0 (x_i0 + 0) fun v0 =>
  asSl v0 fun b0 i0 n0 c0 =>
    CallsA prog impl_FirstOf [V.agg [V.sl b0 i0 n0 c0]] H0 fun v1 H1 =>
      asSl v1 fun b1 i1 n1 c1 =>
        LoopI (L_laws_FnBegins_4 D R)
          [(3, V.ptr x_b0 x_i0), (7, V.sl ends_b0 ends_i0 ends_n0 ends_c0), (8, V.sl b1 i1 n1 c1), (4, V.str text0), (5, V.int IntKind.i64 at0), (9, V.int IntKind.i64 0)] H1) := (hD _ _ _ _ _ _).trans (by kernel_rfl)
theorem L_laws_FnBegins_4_eq (hD : IsD 95 [2] D) {x_b0 x_i0 ends_b0 ends_i0 ends_n0 : Nat} {ends_c0 : Cap} {first_b0 first_i0 first_n0 : Nat} {first_c0 : Cap} {text0 : List UInt8} {at0 i0 : Int} {H0 : AH} : L_laws_FnBegins_4 D R [(3, V.ptr x_b0 x_i0), (7, V.sl ends_b0 ends_i0 ends_n0 ends_c0), (8, V.sl first_b0 first_i0 first_n0 first_c0), (4, V.str text0), (5, V.int IntKind.i64 at0), (9, V.int IntKind.i64 i0)] H0 K1 = (
  splitB (decide (i0 < (↑ends_n0 : Int)))
  (J_laws_FnBegins_5 D R K1
    [(5, V.int IntKind.i64 at0), (4, V.str text0), (8, V.sl first_b0 first_i0 first_n0 first_c0), (7, V.sl ends_b0 ends_i0 ends_n0 ends_c0), (3, V.ptr x_b0 x_i0), (9, V.int IntKind.i64 i0)] H0)
  (J_laws_FnBegins_3 D R [(7, V.sl ends_b0 ends_i0 ends_n0 ends_c0), (3, V.ptr x_b0 x_i0), (4, V.str text0), (5, V.int IntKind.i64 at0)] H0)) := (hD _ _ _ _ _ _).trans (by kernel_rfl)
theorem J_laws_FnBegins_5_eq (hD : IsD 95 [2] D) {at0 : Int} {text0 : List UInt8} {first_b0 first_i0 first_n0 : Nat} {first_c0 : Cap} {ends_b0 ends_i0 ends_n0 : Nat} {ends_c0 : Cap} {x_b0 x_i0 : Nat} {i0 : Int} {H0 : AH} : J_laws_FnBegins_5 D R K1 [(5, V.int IntKind.i64 at0), (4, V.str text0), (8, V.sl first_b0 first_i0 first_n0 first_c0), (7, V.sl ends_b0 ends_i0 ends_n0 ends_c0), (3, V.ptr x_b0 x_i0), (9, V.int IntKind.i64 i0)] H0 = (
  inB i0 ends_n0 ∧
  ld H0 ends_b0 (ends_i0 + i0.toNat * 1) fun v0 =>
    asInt IntKind.i64 v0 fun n0 =>
      ld H0 x_b0 (x_i0 + 0) fun v1 =>
        asSl v1 fun b0 i1 n1 c0 =>
          CallsA prog impl_Shortest [V.agg [V.sl b0 i1 n1 c0]] H0 fun v2 H1 =>
            asInt IntKind.i64 v2 fun n2 =>
              H1.cell ends_b0 (ends_i0 + i0.toNat * 1) = some (V.int IntKind.i64 n0) ∧
                splitB (decide (IntKind.i64.wrap (n0 - at0) < n2))
                  (J_laws_FnBegins_7 D R K1
                    [(75, V.bool true), (5, V.int IntKind.i64 at0), (4, V.str text0), (8, V.sl first_b0 first_i0 first_n0 first_c0), (7, V.sl ends_b0 ends_i0 ends_n0 ends_c0), (3, V.ptr x_b0 x_i0),
                      (9, V.int IntKind.i64 i0)]
                    H1)
                  (inB i0 ends_n0 ∧
                    ld H1 ends_b0 (ends_i0 + i0.toNat * 1) fun v3 =>
                      asInt IntKind.i64 v3 fun n3 =>
                        splitB (n3 == at0)
                          (ld H1 x_b0 (x_i0 + 0) fun v4 =>
                            asSl v4 fun b1 i2 n4 c1 =>
                              CallsA prog impl_Nullable [V.agg [V.sl b1 i2 n4 c1]] H1 fun v5 H2 =>
                                asBool v5 fun t0 =>
                                  splitB (!t0)
                                    (J_laws_FnBegins_7 D R K1
                                      [(75, V.bool true), (5, V.int IntKind.i64 at0), (4, V.str text0), (8, V.sl first_b0 first_i0 first_n0 first_c0), (7, V.sl ends_b0 ends_i0 ends_n0 ends_c0),
                                        (3, V.ptr x_b0 x_i0), (9, V.int IntKind.i64 i0)]
                                      H2)
                                    (inB i0 ends_n0 ∧
                                      ld H2 ends_b0 (ends_i0 + i0.toNat * 1) fun v6 =>
                                        asInt IntKind.i64 v6 fun n5 =>
                                          splitB (decide (n5 > at0))
                                            (inB at0 text0.length ∧
                                              CallsA prog impl_ClassHas [V.sl first_b0 first_i0 first_n0 first_c0, V.int IntKind.u8 (↑(byteAt text0 at0).toNat : Int)] H2 fun v7 H3 =>
                                                asBool v7 fun t1 =>
                                                  J_laws_FnBegins_7 D R K1
                                                    [(75, V.bool !t1), (5, V.int IntKind.i64 at0), (4, V.str text0), (8, V.sl first_b0 first_i0 first_n0 first_c0),
                                                      (7, V.sl ends_b0 ends_i0 ends_n0 ends_c0), (3, V.ptr x_b0 x_i0), (9, V.int IntKind.i64 i0)]
                                                    H3)
                                            (J_laws_FnBegins_7 D R K1
                                              [(75, V.bool false), (5, V.int IntKind.i64 at0), (4, V.str text0), (8, V.sl first_b0 first_i0 first_n0 first_c0),
                                                (7, V.sl ends_b0 ends_i0 ends_n0 ends_c0), (3, V.ptr x_b0 x_i0), (9, V.int IntKind.i64 i0)]
                                              H2)))
                          (inB i0 ends_n0 ∧
                            ld H1 ends_b0 (ends_i0 + i0.toNat * 1) fun v8 =>
                              asInt IntKind.i64 v8 fun n6 =>
                                splitB (decide (n6 > at0))
                                  (inB at0 text0.length ∧
                                    CallsA prog impl_ClassHas [V.sl first_b0 first_i0 first_n0 first_c0, V.int IntKind.u8 (↑(byteAt text0 at0).toNat : Int)] H1 fun v9 H4 =>
                                      asBool v9 fun t2 =>
                                        J_laws_FnBegins_7 D R K1
                                          [(75, V.bool !t2), (5, V.int IntKind.i64 at0), (4, V.str text0), (8, V.sl first_b0 first_i0 first_n0 first_c0), (7, V.sl ends_b0 ends_i0 ends_n0 ends_c0),
                                            (3, V.ptr x_b0 x_i0), (9, V.int IntKind.i64 i0)]
                                          H4)
                                  (J_laws_FnBegins_7 D R K1
                                    [(75, V.bool false), (5, V.int IntKind.i64 at0), (4, V.str text0), (8, V.sl first_b0 first_i0 first_n0 first_c0), (7, V.sl ends_b0 ends_i0 ends_n0 ends_c0),
                                      (3, V.ptr x_b0 x_i0), (9, V.int IntKind.i64 i0)]
                                    H1)))) := (hD _ _ _ _ _ _).trans (by kernel_rfl)
theorem J_laws_FnBegins_3_eq (hD : IsD 95 [2] D) {ends_b0 ends_i0 ends_n0 : Nat} {ends_c0 : Cap} {x_b0 x_i0 : Nat} {text0 : List UInt8} {at0 : Int} {H0 : AH} : J_laws_FnBegins_3 D R [(7, V.sl ends_b0 ends_i0 ends_n0 ends_c0), (3, V.ptr x_b0 x_i0), (4, V.str text0), (5, V.int IntKind.i64 at0)] H0 = (
  splitB ((↑ends_n0 : Int) == 0)
  (ld H0 x_b0 (x_i0 + 0) fun v0 =>
    asSl v0 fun b0 i0 n0 c0 => CallsA prog impl_Longest [V.agg [V.sl b0 i0 n0 c0], V.str text0, V.int IntKind.i64 at0] H0 fun v1 H1 => asInt IntKind.i64 v1 fun n1 => R (V.bool (n1 == -1)) H1)
  (J_laws_FnBegins_8 D R [(3, V.ptr x_b0 x_i0), (4, V.str text0), (5, V.int IntKind.i64 at0), (7, V.sl ends_b0 ends_i0 ends_n0 ends_c0)] H0)) := (hD _ _ _ _ _ _).trans (by kernel_rfl)
theorem J_laws_FnBegins_7_eq (hD : IsD 95 [2] D) {x750 : Bool} {at0 : Int} {text0 : List UInt8} {first_b0 first_i0 first_n0 : Nat} {first_c0 : Cap} {ends_b0 ends_i0 ends_n0 : Nat} {ends_c0 : Cap} {x_b0 x_i0 : Nat} {i0 : Int} {H0 : AH} : J_laws_FnBegins_7 D R K1 [(75, V.bool x750), (5, V.int IntKind.i64 at0), (4, V.str text0), (8, V.sl first_b0 first_i0 first_n0 first_c0), (7, V.sl ends_b0 ends_i0 ends_n0 ends_c0), (3, V.ptr x_b0 x_i0),
  (9, V.int IntKind.i64 i0)] H0 = (
  splitB x750 (R (V.bool false) H0)
  (J_laws_FnBegins_6 D R K1
    [(9, V.int IntKind.i64 i0), (3, V.ptr x_b0 x_i0), (7, V.sl ends_b0 ends_i0 ends_n0 ends_c0), (8, V.sl first_b0 first_i0 first_n0 first_c0), (4, V.str text0), (5, V.int IntKind.i64 at0)] H0)) := (hD _ _ _ _ _ _).trans (by kernel_rfl)
theorem J_laws_FnBegins_8_eq (hD : IsD 95 [2] D) {x_b0 x_i0 : Nat} {text0 : List UInt8} {at0 : Int} {ends_b0 ends_i0 ends_n0 : Nat} {ends_c0 : Cap} {H0 : AH} : J_laws_FnBegins_8 D R [(3, V.ptr x_b0 x_i0), (4, V.str text0), (5, V.int IntKind.i64 at0), (7, V.sl ends_b0 ends_i0 ends_n0 ends_c0)] H0 = (
  ld H0 x_b0 (x_i0 + 0) fun v0 =>
  asSl v0 fun b0 i0 n0 c0 =>
    inB (IntKind.i64.wrap ((↑ends_n0 : Int) - 1)) ends_n0 ∧
      ld H0 ends_b0 (ends_i0 + (IntKind.i64.wrap ((↑ends_n0 : Int) - 1)).toNat * 1) fun v1 =>
        asInt IntKind.i64 v1 fun n1 =>
          CallsA prog impl_Longest [V.agg [V.sl b0 i0 n0 c0], V.str text0, V.int IntKind.i64 at0] H0 fun v2 H1 =>
            asInt IntKind.i64 v2 fun n2 => H1.cell ends_b0 (ends_i0 + (IntKind.i64.wrap ((↑ends_n0 : Int) - 1)).toNat * 1) = some (V.int IntKind.i64 n1) ∧ R (V.bool (n2 == n1)) H1) := (hD _ _ _ _ _ _).trans (by kernel_rfl)
theorem J_laws_FnBegins_6_eq (hD : IsD 95 [2] D) {i0 : Int} {x_b0 x_i0 ends_b0 ends_i0 ends_n0 : Nat} {ends_c0 : Cap} {first_b0 first_i0 first_n0 : Nat} {first_c0 : Cap} {text0 : List UInt8} {at0 : Int} {H0 : AH} : J_laws_FnBegins_6 D R K1 [(9, V.int IntKind.i64 i0), (3, V.ptr x_b0 x_i0), (7, V.sl ends_b0 ends_i0 ends_n0 ends_c0), (8, V.sl first_b0 first_i0 first_n0 first_c0), (4, V.str text0), (5, V.int IntKind.i64 at0)] H0 = (
  K1
  [(3, V.ptr x_b0 x_i0), (7, V.sl ends_b0 ends_i0 ends_n0 ends_c0), (8, V.sl first_b0 first_i0 first_n0 first_c0), (4, V.str text0), (5, V.int IntKind.i64 at0),
    (9, V.int IntKind.i64 (IntKind.i64.wrap (i0 + 1)))]
  H0) := (hD _ _ _ _ _ _).trans (by kernel_rfl)

/-! ### impl_bytesOf -/
noncomputable def impl_bytesOf_b : Code := (Go.Proofs.Tryd.f32.body).getD .skip
noncomputable abbrev impl_bytesOf_p (R : V → AH → Prop) : APost := postK prog (Go.Proofs.Tryd.f32.results.toList) R
def J_impl_bytesOf_1 (D : Den) (R : V → AH → Prop) (env : Env) (H : AH) : Prop := D (cAt [1, 1, 1] impl_bytesOf_b) [] [] env H (impl_bytesOf_p R)
def L_impl_bytesOf_2 (D : Den) (R : V → AH → Prop) (env : Env) (H : AH) (K1 : Env → AH → Prop) : Prop := D (cAt [1, 1, 0, 1, 0, 0] impl_bytesOf_b) [(0, [3, 2])] [9, 2, 8, 10, 3] env H (seqQ (fun e H => K1 (keepE e [9, 2, 8, 10, 3]) H) (blockQ 0 (seqQ (fun e H => J_impl_bytesOf_1 D R (keepE e [3, 2]) H) (impl_bytesOf_p R))))
def J_impl_bytesOf_3 (D : Den) (R : V → AH → Prop) (K1 : Env → AH → Prop) (env : Env) (H : AH) : Prop := D (cAt [1, 1, 0, 1, 0, 0, 1, 1] impl_bytesOf_b) [(0, [3, 2])] [9, 2, 8, 10, 3] env H (seqQ (fun e H => K1 (keepE e [9, 2, 8, 10, 3]) H) (blockQ 0 (seqQ (fun e H => J_impl_bytesOf_1 D R (keepE e [3, 2]) H) (impl_bytesOf_p R))))
def J_impl_bytesOf_4 (D : Den) (R : V → AH → Prop) (K1 : Env → AH → Prop) (env : Env) (H : AH) : Prop := D (cAt [1, 1, 0, 1, 0, 0, 1, 1, 1] impl_bytesOf_b) [(0, [3, 2])] [9, 2, 8, 10, 3] env H (seqQ (fun e H => K1 (keepE e [9, 2, 8, 10, 3]) H) (blockQ 0 (seqQ (fun e H => J_impl_bytesOf_1 D R (keepE e [3, 2]) H) (impl_bytesOf_p R))))
def L_impl_bytesOf_5 (D : Den) (R : V → AH → Prop) (K1 : Env → AH → Prop) (env : Env) (H : AH) (K2 : Env → AH → Prop) : Prop := D (cAt [1, 1, 0, 1, 0, 0, 1, 1, 0, 0, 1, 1, 0, 0] impl_bytesOf_b) [(2, [10, 9, 2, 8, 3]), (1, [10, 9, 2, 8, 3]), (0, [3, 2])] [6, 5, 8, 2, 9, 10, 3] env H (seqQ (fun e H => K2 (keepE e [6, 5, 8, 2, 9, 10, 3]) H) (blockQ 2 (blockQ 1 (seqQ (fun e H => J_impl_bytesOf_4 D R K1 (keepE e [10, 9, 2, 8, 3]) H) (seqQ (fun e H => K1 (keepE e [9, 2, 8, 10, 3]) H) (blockQ 0 (seqQ (fun e H => J_impl_bytesOf_1 D R (keepE e [3, 2]) H) (impl_bytesOf_p R))))))))
def J_impl_bytesOf_6 (D : Den) (R : V → AH → Prop) (K1 : Env → AH → Prop) (K2 : Env → AH → Prop) (env : Env) (H : AH) : Prop := D (cAt [1, 1, 0, 1, 0, 0, 1, 1, 0, 0, 1, 1, 0, 0, 1] impl_bytesOf_b) [(2, [10, 9, 2, 8, 3]), (1, [10, 9, 2, 8, 3]), (0, [3, 2])] [6, 5, 8, 2, 9, 10, 3] env H (seqQ (fun e H => K2 (keepE e [6, 5, 8, 2, 9, 10, 3]) H) (blockQ 2 (blockQ 1 (seqQ (fun e H => J_impl_bytesOf_4 D R K1 (keepE e [10, 9, 2, 8, 3]) H) (seqQ (fun e H => K1 (keepE e [9, 2, 8, 10, 3]) H) (blockQ 0 (seqQ (fun e H => J_impl_bytesOf_1 D R (keepE e [3, 2]) H) (impl_bytesOf_p R))))))))
def J_impl_bytesOf_7 (D : Den) (R : V → AH → Prop) (K1 : Env → AH → Prop) (K2 : Env → AH → Prop) (env : Env) (H : AH) : Prop := D (cAt [1, 1, 0, 1, 0, 0, 1, 1, 0, 0, 1, 1, 0, 0, 1, 1] impl_bytesOf_b) [(2, [10, 9, 2, 8, 3]), (1, [10, 9, 2, 8, 3]), (0, [3, 2])] [6, 5, 8, 2, 9, 10, 3] env H (seqQ (fun e H => K2 (keepE e [6, 5, 8, 2, 9, 10, 3]) H) (blockQ 2 (blockQ 1 (seqQ (fun e H => J_impl_bytesOf_4 D R K1 (keepE e [10, 9, 2, 8, 3]) H) (seqQ (fun e H => K1 (keepE e [9, 2, 8, 10, 3]) H) (blockQ 0 (seqQ (fun e H => J_impl_bytesOf_1 D R (keepE e [3, 2]) H) (impl_bytesOf_p R))))))))
theorem impl_bytesOf_in {args : List V} {H : AH} {R : V → AH → Prop} (h : ∀ D, IsD 26 [2] D → D impl_bytesOf_b [] [] (argEnv 0 args) H (impl_bytesOf_p R)) (hn : args.length ≤ 26 := by exact of_decide_eq_true rfl) : CallsA prog impl_bytesOf args H R := callsD_of Go.Proofs.Tryd.func32 (by kernel_rfl) (by kernel_rfl) (by kernel_rfl) (enters_of Go.Proofs.Tryd.func32 (by kernel_rfl) rfl) hn h
theorem impl_bytesOf_eq (hD : IsD 26 [2] D) {c_b0 c_i0 c_n0 : Nat} {c_c0 : Cap} {H0 : AH} : D impl_bytesOf_b [] [] (argEnv 0 [V.sl c_b0 c_i0 c_n0 c_c0]) H0 (impl_bytesOf_p R) = (
  stK (H0 ++ [Blk.cells (List.replicate 256 (V.bool false)) false] ++ [Blk.cells (List.replicate 256 (V.bool false)) false]) (List.length (H0 ++ [Blk.cells (List.replicate 256 (V.bool false)) false])) 0
  (List.replicate 256 (V.bool false)) fun H1 =>
  LoopI (L_impl_bytesOf_2 D R)
    [(9, V.int IntKind.i64 (↑c_n0 : Int)), (2, V.ptr (List.length H0) 0), (8, V.sl c_b0 c_i0 c_n0 c_c0), (10, V.int IntKind.i64 0),
      (3, V.ptr (List.length (H0 ++ [Blk.cells (List.replicate 256 (V.bool false)) false])) 0)]
    H1) := (hD _ _ _ _ _ _).trans (by kernel_rfl)
theorem L_impl_bytesOf_2_eq (hD : IsD 26 [2] D) {x90 : Int} {x2_b0 x2_i0 x8_b0 x8_i0 x8_n0 : Nat} {x8_c0 : Cap} {x100 : Int} {out_b0 out_i0 : Nat} {H0 : AH} : L_impl_bytesOf_2 D R [(9, V.int IntKind.i64 x90), (2, V.ptr x2_b0 x2_i0), (8, V.sl x8_b0 x8_i0 x8_n0 x8_c0), (10, V.int IntKind.i64 x100), (3, V.ptr out_b0 out_i0)] H0 K1 = (
  splitB (decide (x100 < x90))
  (J_impl_bytesOf_3 D R K1 [(8, V.sl x8_b0 x8_i0 x8_n0 x8_c0), (2, V.ptr x2_b0 x2_i0), (9, V.int IntKind.i64 x90), (10, V.int IntKind.i64 x100), (3, V.ptr out_b0 out_i0)] H0)
  (J_impl_bytesOf_1 D R [(3, V.ptr out_b0 out_i0), (2, V.ptr x2_b0 x2_i0)] H0)) := (hD _ _ _ _ _ _).trans (by kernel_rfl)
theorem J_impl_bytesOf_3_eq (hD : IsD 26 [2] D) {x8_b0 x8_i0 x8_n0 : Nat} {x8_c0 : Cap} {x2_b0 x2_i0 : Nat} {x90 x100 : Int} {out_b0 out_i0 : Nat} {H0 : AH} : J_impl_bytesOf_3 D R K1 [(8, V.sl x8_b0 x8_i0 x8_n0 x8_c0), (2, V.ptr x2_b0 x2_i0), (9, V.int IntKind.i64 x90), (10, V.int IntKind.i64 x100), (3, V.ptr out_b0 out_i0)] H0 = (
  inB x100 x8_n0 ∧
  ld H0 x8_b0 (x8_i0 + x100.toNat * 2 + 0) fun v0 =>
    asInt IntKind.i64 v0 fun n0 =>
      ld H0 x8_b0 (x8_i0 + x100.toNat * 2 + 1) fun v1 =>
        asInt IntKind.i64 v1 fun n1 =>
          stK (H0 ++ [Blk.cells [V.int IntKind.i64 0, V.int IntKind.i64 0] false]) (List.length H0) 0 [V.int IntKind.i64 n0, V.int IntKind.i64 n1] fun H1 =>
            ld H1 (List.length H0) 0 fun v2 =>
              asInt IntKind.i64 v2 fun n2 =>
                LoopI (L_impl_bytesOf_5 D R K1)
                  [(6, V.int IntKind.i64 n2), (5, V.ptr (List.length H0) 0), (8, V.sl x8_b0 x8_i0 x8_n0 x8_c0), (2, V.ptr x2_b0 x2_i0), (9, V.int IntKind.i64 x90), (10, V.int IntKind.i64 x100),
                    (3, V.ptr out_b0 out_i0)]
                  H1) := (hD _ _ _ _ _ _).trans (by kernel_rfl)
theorem J_impl_bytesOf_1_eq (hD : IsD 26 [2] D) {out_b0 out_i0 x2_b0 x2_i0 : Nat} {H0 : AH} : J_impl_bytesOf_1 D R [(3, V.ptr out_b0 out_i0), (2, V.ptr x2_b0 x2_i0)] H0 = (
  cellsK H0 out_b0 out_i0 256 fun l0 => obB (decide (l0.length = 256) && l0.all V.one) (stK H0 x2_b0 x2_i0 l0 fun H1 => cellsK H1 x2_b0 x2_i0 256 fun l1 => R (V.agg l1) H1)) := (hD _ _ _ _ _ _).trans (by kernel_rfl)
theorem L_impl_bytesOf_5_eq (hD : IsD 26 [2] D) {b0 : Int} {s_b0 s_i0 x8_b0 x8_i0 x8_n0 : Nat} {x8_c0 : Cap} {x2_b0 x2_i0 : Nat} {x90 x100 : Int} {out_b0 out_i0 : Nat} {H0 : AH} : L_impl_bytesOf_5 D R K1 [(6, V.int IntKind.i64 b0), (5, V.ptr s_b0 s_i0), (8, V.sl x8_b0 x8_i0 x8_n0 x8_c0), (2, V.ptr x2_b0 x2_i0), (9, V.int IntKind.i64 x90), (10, V.int IntKind.i64 x100), (3, V.ptr out_b0 out_i0)] H0 K2 = (
  ld H0 s_b0 (s_i0 + 1) fun v0 =>
  asInt IntKind.i64 v0 fun n0 =>
    splitB (decide (b0 ≤ n0))
      (J_impl_bytesOf_6 D R K1 K2
        [(6, V.int IntKind.i64 b0), (5, V.ptr s_b0 s_i0), (8, V.sl x8_b0 x8_i0 x8_n0 x8_c0), (2, V.ptr x2_b0 x2_i0), (9, V.int IntKind.i64 x90), (10, V.int IntKind.i64 x100), (3, V.ptr out_b0 out_i0)]
        H0)
      (J_impl_bytesOf_4 D R K1 [(10, V.int IntKind.i64 x100), (9, V.int IntKind.i64 x90), (2, V.ptr x2_b0 x2_i0), (8, V.sl x8_b0 x8_i0 x8_n0 x8_c0), (3, V.ptr out_b0 out_i0)] H0)) := (hD _ _ _ _ _ _).trans (by kernel_rfl)
theorem J_impl_bytesOf_6_eq (hD : IsD 26 [2] D) {b0 : Int} {s_b0 s_i0 x8_b0 x8_i0 x8_n0 : Nat} {x8_c0 : Cap} {x2_b0 x2_i0 : Nat} {x90 x100 : Int} {out_b0 out_i0 : Nat} {H0 : AH} : J_impl_bytesOf_6 D R K1 K2 [(6, V.int IntKind.i64 b0), (5, V.ptr s_b0 s_i0), (8, V.sl x8_b0 x8_i0 x8_n0 x8_c0), (2, V.ptr x2_b0 x2_i0), (9, V.int IntKind.i64 x90), (10, V.int IntKind.i64 x100), (3, V.ptr out_b0 out_i0)] H0 = (
  inB b0 256 ∧
  stK H0 out_b0 (out_i0 + b0.toNat * 1) [V.bool true] fun H1 =>
    J_impl_bytesOf_7 D R K1 K2
      [(6, V.int IntKind.i64 b0), (5, V.ptr s_b0 s_i0), (8, V.sl x8_b0 x8_i0 x8_n0 x8_c0), (2, V.ptr x2_b0 x2_i0), (9, V.int IntKind.i64 x90), (10, V.int IntKind.i64 x100), (3, V.ptr out_b0 out_i0)]
      H1) := (hD _ _ _ _ _ _).trans (by kernel_rfl)
theorem J_impl_bytesOf_4_eq (hD : IsD 26 [2] D) {x100 x90 : Int} {x2_b0 x2_i0 x8_b0 x8_i0 x8_n0 : Nat} {x8_c0 : Cap} {out_b0 out_i0 : Nat} {H0 : AH} : J_impl_bytesOf_4 D R K1 [(10, V.int IntKind.i64 x100), (9, V.int IntKind.i64 x90), (2, V.ptr x2_b0 x2_i0), (8, V.sl x8_b0 x8_i0 x8_n0 x8_c0), (3, V.ptr out_b0 out_i0)] H0 = (
  K1 [(9, V.int IntKind.i64 x90), (2, V.ptr x2_b0 x2_i0), (8, V.sl x8_b0 x8_i0 x8_n0 x8_c0), (10, V.int IntKind.i64 (IntKind.i64.wrap (x100 + 1))), (3, V.ptr out_b0 out_i0)] H0) := (hD _ _ _ _ _ _).trans (by kernel_rfl)
theorem J_impl_bytesOf_7_eq (hD : IsD 26 [2] D) {b0 : Int} {s_b0 s_i0 x8_b0 x8_i0 x8_n0 : Nat} {x8_c0 : Cap} {x2_b0 x2_i0 : Nat} {x90 x100 : Int} {out_b0 out_i0 : Nat} {H0 : AH} : J_impl_bytesOf_7 D R K1 K2 [(6, V.int IntKind.i64 b0), (5, V.ptr s_b0 s_i0), (8, V.sl x8_b0 x8_i0 x8_n0 x8_c0), (2, V.ptr x2_b0 x2_i0), (9, V.int IntKind.i64 x90), (10, V.int IntKind.i64 x100), (3, V.ptr out_b0 out_i0)] H0 = (
  K2
  [(6, V.int IntKind.i64 (IntKind.i64.wrap (b0 + 1))), (5, V.ptr s_b0 s_i0), (8, V.sl x8_b0 x8_i0 x8_n0 x8_c0), (2, V.ptr x2_b0 x2_i0), (9, V.int IntKind.i64 x90), (10, V.int IntKind.i64 x100),
    (3, V.ptr out_b0 out_i0)]
  H0) := (hD _ _ _ _ _ _).trans (by kernel_rfl)

/-! ### spec_l4Memo_again -/
noncomputable def spec_l4Memo_again_b : Code := (Go.Proofs.Tryd.f58.body).getD .skip
noncomputable abbrev spec_l4Memo_again_p (R : V → AH → Prop) : APost := postK prog (Go.Proofs.Tryd.f58.results.toList) R
def J_spec_l4Memo_again_1 (D : Den) (R : V → AH → Prop) (env : Env) (H : AH) : Prop := D (cAt [1, 1, 1, 1] spec_l4Memo_again_b) [] [] env H (spec_l4Memo_again_p R)
def L_spec_l4Memo_again_2 (D : Den) (R : V → AH → Prop) (env : Env) (H : AH) (K1 : Env → AH → Prop) : Prop := D (cAt [1, 1, 1, 0, 1, 0, 0] spec_l4Memo_again_b) [(0, [7])] [9, 1, 0, 7, 8] env H (seqQ (fun e H => K1 (keepE e [9, 1, 0, 7, 8]) H) (blockQ 0 (seqQ (fun e H => J_spec_l4Memo_again_1 D R (keepE e [7]) H) (spec_l4Memo_again_p R))))
def J_spec_l4Memo_again_3 (D : Den) (R : V → AH → Prop) (K1 : Env → AH → Prop) (env : Env) (H : AH) : Prop := D (cAt [1, 1, 1, 0, 1, 0, 0, 1] spec_l4Memo_again_b) [(0, [7])] [9, 1, 0, 7, 8] env H (seqQ (fun e H => K1 (keepE e [9, 1, 0, 7, 8]) H) (blockQ 0 (seqQ (fun e H => J_spec_l4Memo_again_1 D R (keepE e [7]) H) (spec_l4Memo_again_p R))))
def J_spec_l4Memo_again_4 (D : Den) (R : V → AH → Prop) (K1 : Env → AH → Prop) (env : Env) (H : AH) : Prop := D (cAt [1, 1, 1, 0, 1, 0, 0, 1, 1] spec_l4Memo_again_b) [(0, [7])] [9, 1, 0, 7, 8] env H (seqQ (fun e H => K1 (keepE e [9, 1, 0, 7, 8]) H) (blockQ 0 (seqQ (fun e H => J_spec_l4Memo_again_1 D R (keepE e [7]) H) (spec_l4Memo_again_p R))))
def J_spec_l4Memo_again_5 (D : Den) (R : V → AH → Prop) (K1 : Env → AH → Prop) (env : Env) (H : AH) : Prop := D (cAt [1, 1, 1, 0, 1, 0, 0, 1, 0, 0, 1] spec_l4Memo_again_b) [(1, [9, 1, 0, 7, 8]), (0, [7])] [9, 1, 0, 7, 8] env H (blockQ 1 (seqQ (fun e H => J_spec_l4Memo_again_4 D R K1 (keepE e [9, 1, 0, 7, 8]) H) (seqQ (fun e H => K1 (keepE e [9, 1, 0, 7, 8]) H) (blockQ 0 (seqQ (fun e H => J_spec_l4Memo_again_1 D R (keepE e [7]) H) (spec_l4Memo_again_p R))))))
def J_spec_l4Memo_again_6 (D : Den) (R : V → AH → Prop) (K1 : Env → AH → Prop) (env : Env) (H : AH) : Prop := D (cAt [1, 1, 1, 0, 1, 0, 0, 1, 0, 0, 0, 1] spec_l4Memo_again_b) [(1, [9, 1, 0, 7, 8]), (0, [7])] [7, 9, 1, 0, 8] env H (seqQ (fun e H => J_spec_l4Memo_again_5 D R K1 (keepE e [7, 9, 1, 0, 8]) H) (blockQ 1 (seqQ (fun e H => J_spec_l4Memo_again_4 D R K1 (keepE e [9, 1, 0, 7, 8]) H) (seqQ (fun e H => K1 (keepE e [9, 1, 0, 7, 8]) H) (blockQ 0 (seqQ (fun e H => J_spec_l4Memo_again_1 D R (keepE e [7]) H) (spec_l4Memo_again_p R)))))))
theorem spec_l4Memo_again_in {args : List V} {H : AH} {R : V → AH → Prop} (h : ∀ D, IsD 43 [6] D → D spec_l4Memo_again_b [] [] (argEnv 0 args) H (spec_l4Memo_again_p R)) (hn : args.length ≤ 43 := by exact of_decide_eq_true rfl) : CallsA prog spec_l4Memo_again args H R := callsD_of Go.Proofs.Tryd.func58 (by kernel_rfl) (by kernel_rfl) (by kernel_rfl) (enters_of Go.Proofs.Tryd.func58 (by kernel_rfl) rfl) hn h
theorem spec_l4Memo_again_eq (hD : IsD 43 [6] D) {m_b0 m_i0 : Nat} {at0 : Int} {from_b0 from_i0 from_n0 : Nat} {from_c0 : Cap} {H0 : AH} : D spec_l4Memo_again_b [] [] (argEnv 0 [V.ptr m_b0 m_i0, V.int IntKind.i64 at0, V.sl from_b0 from_i0 from_n0 from_c0]) H0 (spec_l4Memo_again_p R) = (
  CallsA prog spec_l4Or [V.sl from_b0 from_i0 from_n0 from_c0, V.sl from_b0 from_i0 from_n0 from_c0] H0 fun v0 H1 =>
  asSl v0 fun b0 i0 n0 c0 =>
    mkOk (↑from_n0 : Int) (↑from_n0 : Int) 1 ∧
      LoopI (L_spec_l4Memo_again_2 D R)
        [(9, V.int IntKind.i64 0), (1, V.int IntKind.i64 at0), (0, V.ptr m_b0 m_i0), (7, V.sl b0 i0 n0 c0), (8, V.sl (List.length H1) 0 (↑from_n0 : Int).toNat (Cap.ex (↑from_n0 : Int).toNat))]
        (H1 ++ [Blk.cells (rep (↑from_n0 : Int).toNat [V.bool false]) false])) := (hD _ _ _ _ _ _).trans (by kernel_rfl)
theorem L_spec_l4Memo_again_2_eq (hD : IsD 43 [6] D) {i0 at0 : Int} {m_b0 m_i0 out_b0 out_i0 out_n0 : Nat} {out_c0 : Cap} {done_b0 done_i0 done_n0 : Nat} {done_c0 : Cap} {H0 : AH} : L_spec_l4Memo_again_2 D R [(9, V.int IntKind.i64 i0), (1, V.int IntKind.i64 at0), (0, V.ptr m_b0 m_i0), (7, V.sl out_b0 out_i0 out_n0 out_c0), (8, V.sl done_b0 done_i0 done_n0 done_c0)] H0 K1 = (
  splitB (decide (i0 < (↑out_n0 : Int)))
  (J_spec_l4Memo_again_3 D R K1
    [(9, V.int IntKind.i64 i0), (1, V.int IntKind.i64 at0), (0, V.ptr m_b0 m_i0), (7, V.sl out_b0 out_i0 out_n0 out_c0), (8, V.sl done_b0 done_i0 done_n0 done_c0)] H0)
  (J_spec_l4Memo_again_1 D R [(7, V.sl out_b0 out_i0 out_n0 out_c0)] H0)) := (hD _ _ _ _ _ _).trans (by kernel_rfl)
theorem J_spec_l4Memo_again_3_eq (hD : IsD 43 [6] D) {i0 at0 : Int} {m_b0 m_i0 out_b0 out_i0 out_n0 : Nat} {out_c0 : Cap} {done_b0 done_i0 done_n0 : Nat} {done_c0 : Cap} {H0 : AH} : J_spec_l4Memo_again_3 D R K1 [(9, V.int IntKind.i64 i0), (1, V.int IntKind.i64 at0), (0, V.ptr m_b0 m_i0), (7, V.sl out_b0 out_i0 out_n0 out_c0), (8, V.sl done_b0 done_i0 done_n0 done_c0)] H0 = (
  inB i0 out_n0 ∧
  ld H0 out_b0 (out_i0 + i0.toNat * 1) fun v0 =>
    asBool v0 fun t0 =>
      splitB (!t0)
        (J_spec_l4Memo_again_6 D R K1
          [(32, V.bool true), (9, V.int IntKind.i64 i0), (1, V.int IntKind.i64 at0), (0, V.ptr m_b0 m_i0), (7, V.sl out_b0 out_i0 out_n0 out_c0), (8, V.sl done_b0 done_i0 done_n0 done_c0)] H0)
        (inB i0 done_n0 ∧
          ld H0 done_b0 (done_i0 + i0.toNat * 1) fun v1 =>
            asBool v1 fun t1 =>
              J_spec_l4Memo_again_6 D R K1
                [(32, V.bool t1), (9, V.int IntKind.i64 i0), (1, V.int IntKind.i64 at0), (0, V.ptr m_b0 m_i0), (7, V.sl out_b0 out_i0 out_n0 out_c0), (8, V.sl done_b0 done_i0 done_n0 done_c0)] H0)) := (hD _ _ _ _ _ _).trans (by kernel_rfl)
theorem J_spec_l4Memo_again_1_eq (hD : IsD 43 [6] D) {out_b0 out_i0 out_n0 : Nat} {out_c0 : Cap} {H0 : AH} : J_spec_l4Memo_again_1 D R [(7, V.sl out_b0 out_i0 out_n0 out_c0)] H0 = (
  R (V.sl out_b0 out_i0 out_n0 out_c0) H0) := (hD _ _ _ _ _ _).trans (by kernel_rfl)
theorem J_spec_l4Memo_again_6_eq (hD : IsD 43 [6] D) {x320 : Bool} {i0 at0 : Int} {m_b0 m_i0 out_b0 out_i0 out_n0 : Nat} {out_c0 : Cap} {done_b0 done_i0 done_n0 : Nat} {done_c0 : Cap} {H0 : AH} : J_spec_l4Memo_again_6 D R K1 [(32, V.bool x320), (9, V.int IntKind.i64 i0), (1, V.int IntKind.i64 at0), (0, V.ptr m_b0 m_i0), (7, V.sl out_b0 out_i0 out_n0 out_c0), (8, V.sl done_b0 done_i0 done_n0 done_c0)] H0 = (
  splitB x320
  (J_spec_l4Memo_again_4 D R K1
    [(9, V.int IntKind.i64 i0), (1, V.int IntKind.i64 at0), (0, V.ptr m_b0 m_i0), (7, V.sl out_b0 out_i0 out_n0 out_c0), (8, V.sl done_b0 done_i0 done_n0 done_c0)] H0)
  (J_spec_l4Memo_again_5 D R K1
    [(7, V.sl out_b0 out_i0 out_n0 out_c0), (9, V.int IntKind.i64 i0), (1, V.int IntKind.i64 at0), (0, V.ptr m_b0 m_i0), (8, V.sl done_b0 done_i0 done_n0 done_c0)] H0)) := (hD _ _ _ _ _ _).trans (by kernel_rfl)
theorem J_spec_l4Memo_again_4_eq (hD : IsD 43 [6] D) {i0 at0 : Int} {m_b0 m_i0 out_b0 out_i0 out_n0 : Nat} {out_c0 : Cap} {done_b0 done_i0 done_n0 : Nat} {done_c0 : Cap} {H0 : AH} : J_spec_l4Memo_again_4 D R K1 [(9, V.int IntKind.i64 i0), (1, V.int IntKind.i64 at0), (0, V.ptr m_b0 m_i0), (7, V.sl out_b0 out_i0 out_n0 out_c0), (8, V.sl done_b0 done_i0 done_n0 done_c0)] H0 = (
  K1 [(9, V.int IntKind.i64 (IntKind.i64.wrap (i0 + 1))), (1, V.int IntKind.i64 at0), (0, V.ptr m_b0 m_i0), (7, V.sl out_b0 out_i0 out_n0 out_c0), (8, V.sl done_b0 done_i0 done_n0 done_c0)] H0) := (hD _ _ _ _ _ _).trans (by kernel_rfl)
theorem J_spec_l4Memo_again_5_eq (hD : IsD 43 [6] D) {out_b0 out_i0 out_n0 : Nat} {out_c0 : Cap} {i0 at0 : Int} {m_b0 m_i0 done_b0 done_i0 done_n0 : Nat} {done_c0 : Cap} {H0 : AH} : J_spec_l4Memo_again_5 D R K1 [(7, V.sl out_b0 out_i0 out_n0 out_c0), (9, V.int IntKind.i64 i0), (1, V.int IntKind.i64 at0), (0, V.ptr m_b0 m_i0), (8, V.sl done_b0 done_i0 done_n0 done_c0)] H0 = (
  inB i0 done_n0 ∧
  stK H0 done_b0 (done_i0 + i0.toNat * 1) [V.bool true] fun H1 =>
    CallsA prog spec_l4Memo_ends [V.ptr m_b0 m_i0, V.int IntKind.i64 at0, V.int IntKind.i64 i0] H1 fun v0 H2 =>
      asSl v0 fun b0 i1 n0 c0 =>
        CallsA prog spec_l4Or [V.sl out_b0 out_i0 out_n0 out_c0, V.sl b0 i1 n0 c0] H2 fun v1 H3 =>
          asSl v1 fun b1 i2 n1 c1 =>
            J_spec_l4Memo_again_4 D R K1
              [(9, V.int IntKind.i64 i0), (1, V.int IntKind.i64 at0), (0, V.ptr m_b0 m_i0), (7, V.sl b1 i2 n1 c1), (8, V.sl done_b0 done_i0 done_n0 done_c0)] H3) := (hD _ _ _ _ _ _).trans (by kernel_rfl)

/-! ### impl_ClassOk -/
noncomputable def impl_ClassOk_b : Code := (Go.Proofs.Tryd.f31.body).getD .skip
noncomputable abbrev impl_ClassOk_p (R : V → AH → Prop) : APost := postK prog (Go.Proofs.Tryd.f31.results.toList) R
def J_impl_ClassOk_1 (D : Den) (R : V → AH → Prop) (env : Env) (H : AH) : Prop := D (cAt [1, 1] impl_ClassOk_b) [] [] env H (impl_ClassOk_p R)
def L_impl_ClassOk_2 (D : Den) (R : V → AH → Prop) (env : Env) (H : AH) (K1 : Env → AH → Prop) : Prop := D (cAt [1, 0, 1, 0, 0] impl_ClassOk_b) [(0, [])] [6, 5, 0, 7] env H (seqQ (fun e H => K1 (keepE e [6, 5, 0, 7]) H) (blockQ 0 (seqQ (fun e H => J_impl_ClassOk_1 D R (keepE e []) H) (impl_ClassOk_p R))))
def J_impl_ClassOk_3 (D : Den) (R : V → AH → Prop) (K1 : Env → AH → Prop) (env : Env) (H : AH) : Prop := D (cAt [1, 0, 1, 0, 0, 1, 1] impl_ClassOk_b) [(0, [])] [6, 5, 0, 7] env H (seqQ (fun e H => K1 (keepE e [6, 5, 0, 7]) H) (blockQ 0 (seqQ (fun e H => J_impl_ClassOk_1 D R (keepE e []) H) (impl_ClassOk_p R))))
def J_impl_ClassOk_4 (D : Den) (R : V → AH → Prop) (K1 : Env → AH → Prop) (env : Env) (H : AH) : Prop := D (cAt [1, 0, 1, 0, 0, 1, 1, 1] impl_ClassOk_b) [(0, [])] [6, 5, 0, 7] env H (seqQ (fun e H => K1 (keepE e [6, 5, 0, 7]) H) (blockQ 0 (seqQ (fun e H => J_impl_ClassOk_1 D R (keepE e []) H) (impl_ClassOk_p R))))
def J_impl_ClassOk_5 (D : Den) (R : V → AH → Prop) (K1 : Env → AH → Prop) (env : Env) (H : AH) : Prop := D (cAt [1, 0, 1, 0, 0, 1, 1, 0, 0, 1, 1] impl_ClassOk_b) [(1, [7, 6, 5, 0]), (0, [])] [7, 6, 5, 0] env H (blockQ 1 (seqQ (fun e H => J_impl_ClassOk_4 D R K1 (keepE e [7, 6, 5, 0]) H) (seqQ (fun e H => K1 (keepE e [6, 5, 0, 7]) H) (blockQ 0 (seqQ (fun e H => J_impl_ClassOk_1 D R (keepE e []) H) (impl_ClassOk_p R))))))
theorem impl_ClassOk_in {args : List V} {H : AH} {R : V → AH → Prop} (h : ∀ D, IsD 44 [2] D → D impl_ClassOk_b [] [] (argEnv 0 args) H (impl_ClassOk_p R)) (hn : args.length ≤ 44 := by exact of_decide_eq_true rfl) : CallsA prog impl_ClassOk args H R := callsD_of Go.Proofs.Tryd.func31 (by kernel_rfl) (by kernel_rfl) (by kernel_rfl) (enters_of Go.Proofs.Tryd.func31 (by kernel_rfl) rfl) hn h
theorem impl_ClassOk_eq (hD : IsD 44 [2] D) {c_b0 c_i0 c_n0 : Nat} {c_c0 : Cap} {H0 : AH} : D impl_ClassOk_b [] [] (argEnv 0 [V.sl c_b0 c_i0 c_n0 c_c0]) H0 (impl_ClassOk_p R) = (
  LoopI (L_impl_ClassOk_2 D R) [(6, V.int IntKind.i64 (↑c_n0 : Int)), (5, V.sl c_b0 c_i0 c_n0 c_c0), (0, V.sl c_b0 c_i0 c_n0 c_c0), (7, V.int IntKind.i64 0)] H0) := (hD _ _ _ _ _ _).trans (by kernel_rfl)
theorem L_impl_ClassOk_2_eq (hD : IsD 44 [2] D) {x60 : Int} {x5_b0 x5_i0 x5_n0 : Nat} {x5_c0 : Cap} {c_b0 c_i0 c_n0 : Nat} {c_c0 : Cap} {x70 : Int} {H0 : AH} : L_impl_ClassOk_2 D R [(6, V.int IntKind.i64 x60), (5, V.sl x5_b0 x5_i0 x5_n0 x5_c0), (0, V.sl c_b0 c_i0 c_n0 c_c0), (7, V.int IntKind.i64 x70)] H0 K1 = (
  splitB (decide (x70 < x60)) (J_impl_ClassOk_3 D R K1 [(0, V.sl c_b0 c_i0 c_n0 c_c0), (5, V.sl x5_b0 x5_i0 x5_n0 x5_c0), (6, V.int IntKind.i64 x60), (7, V.int IntKind.i64 x70)] H0)
  (J_impl_ClassOk_1 D R [] H0)) := (hD _ _ _ _ _ _).trans (by kernel_rfl)
theorem J_impl_ClassOk_3_eq (hD : IsD 44 [2] D) {c_b0 c_i0 c_n0 : Nat} {c_c0 : Cap} {x5_b0 x5_i0 x5_n0 : Nat} {x5_c0 : Cap} {x60 x70 : Int} {H0 : AH} : J_impl_ClassOk_3 D R K1 [(0, V.sl c_b0 c_i0 c_n0 c_c0), (5, V.sl x5_b0 x5_i0 x5_n0 x5_c0), (6, V.int IntKind.i64 x60), (7, V.int IntKind.i64 x70)] H0 = (
  inB x70 x5_n0 ∧
  ld H0 x5_b0 (x5_i0 + x70.toNat * 2 + 0) fun v0 =>
    asInt IntKind.i64 v0 fun n0 =>
      ld H0 x5_b0 (x5_i0 + x70.toNat * 2 + 1) fun v1 =>
        asInt IntKind.i64 v1 fun n1 =>
          stK (H0 ++ [Blk.cells [V.int IntKind.i64 0, V.int IntKind.i64 0] false]) (List.length H0) 0 [V.int IntKind.i64 n0, V.int IntKind.i64 n1] fun H1 =>
            ld H1 (List.length H0) 0 fun v2 =>
              asInt IntKind.i64 v2 fun n2 =>
                splitB (decide (n2 < 0))
                  (J_impl_ClassOk_5 D R K1 [(42, V.bool true), (0, V.sl c_b0 c_i0 c_n0 c_c0), (5, V.sl x5_b0 x5_i0 x5_n0 x5_c0), (6, V.int IntKind.i64 x60), (7, V.int IntKind.i64 x70)]
                    H1)
                  (ld H1 (List.length H0) 0 fun v3 =>
                    asInt IntKind.i64 v3 fun n3 =>
                      ld H1 (List.length H0) 1 fun v4 =>
                        asInt IntKind.i64 v4 fun n4 =>
                          splitB (decide (n3 > n4))
                            (J_impl_ClassOk_5 D R K1
                              [(42, V.bool true), (0, V.sl c_b0 c_i0 c_n0 c_c0), (5, V.sl x5_b0 x5_i0 x5_n0 x5_c0), (6, V.int IntKind.i64 x60), (7, V.int IntKind.i64 x70)] H1)
                            (ld H1 (List.length H0) 1 fun v5 =>
                              asInt IntKind.i64 v5 fun n5 =>
                                splitB (decide (n5 > 255))
                                  (J_impl_ClassOk_5 D R K1
                                    [(42, V.bool true), (0, V.sl c_b0 c_i0 c_n0 c_c0), (5, V.sl x5_b0 x5_i0 x5_n0 x5_c0), (6, V.int IntKind.i64 x60), (7, V.int IntKind.i64 x70)] H1)
                                  (splitB (decide (x70 > 0))
                                    (ld H1 (List.length H0) 0 fun v6 =>
                                      asInt IntKind.i64 v6 fun n6 =>
                                        inB (IntKind.i64.wrap (x70 - 1)) c_n0 ∧
                                          ld H1 c_b0 (c_i0 + (IntKind.i64.wrap (x70 - 1)).toNat * 2 + 1) fun v7 =>
                                            asInt IntKind.i64 v7 fun n7 =>
                                              J_impl_ClassOk_5 D R K1
                                                [(42, V.bool (decide (n6 < IntKind.i64.wrap (n7 + 2)))), (0, V.sl c_b0 c_i0 c_n0 c_c0), (5, V.sl x5_b0 x5_i0 x5_n0 x5_c0), (6, V.int IntKind.i64 x60),
                                                  (7, V.int IntKind.i64 x70)]
                                                H1)
                                    (J_impl_ClassOk_5 D R K1
                                      [(42, V.bool false), (0, V.sl c_b0 c_i0 c_n0 c_c0), (5, V.sl x5_b0 x5_i0 x5_n0 x5_c0), (6, V.int IntKind.i64 x60), (7, V.int IntKind.i64 x70)] H1))))) := (hD _ _ _ _ _ _).trans (by kernel_rfl)
theorem J_impl_ClassOk_1_eq (hD : IsD 44 [2] D) {H0 : AH} : J_impl_ClassOk_1 D R [] H0 = (
  R (V.bool true) H0) := (hD _ _ _ _ _ _).trans (by kernel_rfl)
theorem J_impl_ClassOk_5_eq (hD : IsD 44 [2] D) {x420 : Bool} {c_b0 c_i0 c_n0 : Nat} {c_c0 : Cap} {x5_b0 x5_i0 x5_n0 : Nat} {x5_c0 : Cap} {x60 x70 : Int} {H0 : AH} : J_impl_ClassOk_5 D R K1 [(42, V.bool x420), (0, V.sl c_b0 c_i0 c_n0 c_c0), (5, V.sl x5_b0 x5_i0 x5_n0 x5_c0), (6, V.int IntKind.i64 x60), (7, V.int IntKind.i64 x70)] H0 = (
  splitB x420 (R (V.bool false) H0) (J_impl_ClassOk_4 D R K1 [(7, V.int IntKind.i64 x70), (6, V.int IntKind.i64 x60), (5, V.sl x5_b0 x5_i0 x5_n0 x5_c0), (0, V.sl c_b0 c_i0 c_n0 c_c0)] H0)) := (hD _ _ _ _ _ _).trans (by kernel_rfl)
theorem J_impl_ClassOk_4_eq (hD : IsD 44 [2] D) {x70 x60 : Int} {x5_b0 x5_i0 x5_n0 : Nat} {x5_c0 : Cap} {c_b0 c_i0 c_n0 : Nat} {c_c0 : Cap} {H0 : AH} : J_impl_ClassOk_4 D R K1 [(7, V.int IntKind.i64 x70), (6, V.int IntKind.i64 x60), (5, V.sl x5_b0 x5_i0 x5_n0 x5_c0), (0, V.sl c_b0 c_i0 c_n0 c_c0)] H0 = (
  K1 [(6, V.int IntKind.i64 x60), (5, V.sl x5_b0 x5_i0 x5_n0 x5_c0), (0, V.sl c_b0 c_i0 c_n0 c_c0), (7, V.int IntKind.i64 (IntKind.i64.wrap (x70 + 1)))] H0) := (hD _ _ _ _ _ _).trans (by kernel_rfl)

/-! ### impl_nodeOk -/
noncomputable def impl_nodeOk_b : Code := (Go.Proofs.Tryd.f43.body).getD .skip
noncomputable abbrev impl_nodeOk_p (R : V → AH → Prop) : APost := postK prog (Go.Proofs.Tryd.f43.results.toList) R
def J_impl_nodeOk_1 (D : Den) (R : V → AH → Prop) (env : Env) (H : AH) : Prop := D (cAt [1, 1] impl_nodeOk_b) [] [] env H (impl_nodeOk_p R)
def J_impl_nodeOk_2 (D : Den) (R : V → AH → Prop) (env : Env) (H : AH) : Prop := D (cAt [1, 0, 1] impl_nodeOk_b) [] [2] env H (seqQ (fun e H => J_impl_nodeOk_1 D R (keepE e [2]) H) (impl_nodeOk_p R))
def J_impl_nodeOk_3 (D : Den) (R : V → AH → Prop) (env : Env) (H : AH) : Prop := D (cAt [1, 1, 1] impl_nodeOk_b) [] [] env H (impl_nodeOk_p R)
def J_impl_nodeOk_4 (D : Den) (R : V → AH → Prop) (env : Env) (H : AH) : Prop := D (cAt [1, 1, 0, 1] impl_nodeOk_b) [] [2] env H (seqQ (fun e H => J_impl_nodeOk_3 D R (keepE e [2]) H) (impl_nodeOk_p R))
def J_impl_nodeOk_5 (D : Den) (R : V → AH → Prop) (env : Env) (H : AH) : Prop := D (cAt [1, 1, 1, 1] impl_nodeOk_b) [] [] env H (impl_nodeOk_p R)
def J_impl_nodeOk_6 (D : Den) (R : V → AH → Prop) (env : Env) (H : AH) : Prop := D (cAt [1, 1, 1, 1, 1] impl_nodeOk_b) [] [] env H (impl_nodeOk_p R)
theorem impl_nodeOk_in {args : List V} {H : AH} {R : V → AH → Prop} (h : ∀ D, IsD 60 [4] D → D impl_nodeOk_b [] [] (argEnv 0 args) H (impl_nodeOk_p R)) (hn : args.length ≤ 60 := by exact of_decide_eq_true rfl) : CallsA prog impl_nodeOk args H R := callsD_of Go.Proofs.Tryd.func43 (by kernel_rfl) (by kernel_rfl) (by kernel_rfl) (enters_of Go.Proofs.Tryd.func43 (by kernel_rfl) rfl) hn h
theorem impl_nodeOk_eq (hD : IsD 60 [4] D) {n0 : Int} {n_b0 n_i0 n_n0 : Nat} {n_c0 : Cap} {n_b1 n_i1 n_n1 : Nat} {n_c1 : Cap} {n1 n2 place0 : Int} {H0 : AH} : D impl_nodeOk_b [] [] (argEnv 0 [V.agg [V.int IntKind.i64 n0, V.sl n_b0 n_i0 n_n0 n_c0, V.sl n_b1 n_i1 n_n1 n_c1, V.int IntKind.i64 n1, V.int IntKind.i64 n2], V.int IntKind.i64 place0]) H0 (impl_nodeOk_p R) = (
  ld (H0 ++ [Blk.cells [V.int IntKind.i64 n0, V.sl n_b0 n_i0 n_n0 n_c0, V.sl n_b1 n_i1 n_n1 n_c1, V.int IntKind.i64 n1, V.int IntKind.i64 n2] false] ++ [Blk.cells [V.int IntKind.i64 place0] false])
  (List.length H0) 2 fun v0 =>
  asSl v0 fun b0 i0 n3 c0 =>
    ld (H0 ++ [Blk.cells [V.int IntKind.i64 n0, V.sl n_b0 n_i0 n_n0 n_c0, V.sl n_b1 n_i1 n_n1 n_c1, V.int IntKind.i64 n1, V.int IntKind.i64 n2] false] ++ [Blk.cells [V.int IntKind.i64 place0] false])
      (List.length H0) 0 fun v1 =>
      asInt IntKind.i64 v1 fun n4 =>
        CallsA prog impl_kidsOf [V.int IntKind.i64 n4]
          (H0 ++ [Blk.cells [V.int IntKind.i64 n0, V.sl n_b0 n_i0 n_n0 n_c0, V.sl n_b1 n_i1 n_n1 n_c1, V.int IntKind.i64 n1, V.int IntKind.i64 n2] false] ++
            [Blk.cells [V.int IntKind.i64 place0] false])
          fun v2 H1 =>
          asInt IntKind.i64 v2 fun n5 =>
            H1.cell (List.length H0) 2 = some (V.sl b0 i0 n3 c0) ∧
              splitB ((↑n3 : Int) != n5) (J_impl_nodeOk_2 D R [(17, V.bool true), (2, V.ptr (List.length H0) 0)] H1)
                (ld H1 (List.length H0) 2 fun v3 =>
                  asSl v3 fun b1 i1 n6 c1 =>
                    CallsA prog 60
                      [V.sl b1 i1 n6 c1,
                        V.fn impl_nodeOk_1 []
                          [V.ptr (List.length (H0 ++ [Blk.cells [V.int IntKind.i64 n0, V.sl n_b0 n_i0 n_n0 n_c0, V.sl n_b1 n_i1 n_n1 n_c1, V.int IntKind.i64 n1, V.int IntKind.i64 n2] false])) 0]]
                      H1 fun v4 H2 => asBool v4 fun t0 => J_impl_nodeOk_2 D R [(17, V.bool t0), (2, V.ptr (List.length H0) 0)] H2)) := (hD _ _ _ _ _ _).trans (by kernel_rfl)
theorem J_impl_nodeOk_2_eq (hD : IsD 60 [4] D) {x170 : Bool} {n_b0 n_i0 : Nat} {H0 : AH} : J_impl_nodeOk_2 D R [(17, V.bool x170), (2, V.ptr n_b0 n_i0)] H0 = (
  splitB x170 (R (V.bool false) H0) (J_impl_nodeOk_1 D R [(2, V.ptr n_b0 n_i0)] H0)) := (hD _ _ _ _ _ _).trans (by kernel_rfl)
theorem J_impl_nodeOk_1_eq (hD : IsD 60 [4] D) {n_b0 n_i0 : Nat} {H0 : AH} : J_impl_nodeOk_1 D R [(2, V.ptr n_b0 n_i0)] H0 = (
  ld H0 n_b0 n_i0 fun v0 =>
  asInt IntKind.i64 v0 fun n0 =>
    splitB (n0 == 2)
      (ld H0 n_b0 (n_i0 + 1) fun v1 =>
        asSl v1 fun b0 i0 n1 c0 =>
          CallsA prog impl_ClassOk [V.sl b0 i0 n1 c0] H0 fun v2 H1 =>
            asBool v2 fun t0 =>
              splitB (!t0) (J_impl_nodeOk_4 D R [(43, V.bool true), (2, V.ptr n_b0 n_i0)] H1)
                (ld H1 n_b0 (n_i0 + 1) fun v3 =>
                  asSl v3 fun b1 i1 n2 c1 =>
                    splitB ((↑n2 : Int) == 0) (J_impl_nodeOk_4 D R [(43, V.bool true), (2, V.ptr n_b0 n_i0)] H1)
                      (ld H1 n_b0 n_i0 fun v4 =>
                        asInt IntKind.i64 v4 fun n3 =>
                          splitB (n3 != 2)
                            (ld H1 n_b0 (n_i0 + 1) fun v5 => asSl v5 fun b2 i2 n4 c2 => J_impl_nodeOk_4 D R [(43, V.bool (decide ((↑n4 : Int) > 0))), (2, V.ptr n_b0 n_i0)] H1)
                            (J_impl_nodeOk_4 D R [(43, V.bool false), (2, V.ptr n_b0 n_i0)] H1))))
      (ld H0 n_b0 n_i0 fun v6 =>
        asInt IntKind.i64 v6 fun n5 =>
          splitB (n5 != 2) (ld H0 n_b0 (n_i0 + 1) fun v7 => asSl v7 fun b3 i3 n6 c3 => J_impl_nodeOk_4 D R [(43, V.bool (decide ((↑n6 : Int) > 0))), (2, V.ptr n_b0 n_i0)] H0)
            (J_impl_nodeOk_4 D R [(43, V.bool false), (2, V.ptr n_b0 n_i0)] H0))) := (hD _ _ _ _ _ _).trans (by kernel_rfl)
theorem J_impl_nodeOk_4_eq (hD : IsD 60 [4] D) {x430 : Bool} {n_b0 n_i0 : Nat} {H0 : AH} : J_impl_nodeOk_4 D R [(43, V.bool x430), (2, V.ptr n_b0 n_i0)] H0 = (
  splitB x430 (R (V.bool false) H0) (J_impl_nodeOk_3 D R [(2, V.ptr n_b0 n_i0)] H0)) := (hD _ _ _ _ _ _).trans (by kernel_rfl)
theorem J_impl_nodeOk_3_eq (hD : IsD 60 [4] D) {n_b0 n_i0 : Nat} {H0 : AH} : J_impl_nodeOk_3 D R [(2, V.ptr n_b0 n_i0)] H0 = (
  ld H0 n_b0 n_i0 fun v0 =>
  asInt IntKind.i64 v0 fun n0 =>
    splitB (n0 == 8)
      (ld H0 n_b0 (n_i0 + 3) fun v1 =>
        asInt IntKind.i64 v1 fun n1 =>
          ld H0 n_b0 (n_i0 + 4) fun v2 => asInt IntKind.i64 v2 fun n2 => CallsA prog impl_timesOk [V.int IntKind.i64 n1, V.int IntKind.i64 n2] H0 fun v3 H1 => asBool v3 fun t0 => R (V.bool t0) H1)
      (J_impl_nodeOk_5 D R [(2, V.ptr n_b0 n_i0)] H0)) := (hD _ _ _ _ _ _).trans (by kernel_rfl)
theorem J_impl_nodeOk_5_eq (hD : IsD 60 [4] D) {n_b0 n_i0 : Nat} {H0 : AH} : J_impl_nodeOk_5 D R [(2, V.ptr n_b0 n_i0)] H0 = (
  ld H0 n_b0 (n_i0 + 3) fun v0 =>
  asInt IntKind.i64 v0 fun n0 =>
    splitB (n0 == 0) (ld H0 n_b0 (n_i0 + 4) fun v1 => asInt IntKind.i64 v1 fun n1 => J_impl_nodeOk_6 D R [(4, V.bool (n1 == 0))] H0)
      (J_impl_nodeOk_6 D R [(4, V.bool false)] H0)) := (hD _ _ _ _ _ _).trans (by kernel_rfl)
theorem J_impl_nodeOk_6_eq (hD : IsD 60 [4] D) {x40 : Bool} {H0 : AH} : J_impl_nodeOk_6 D R [(4, V.bool x40)] H0 = (
  R (V.bool x40) H0) := (hD _ _ _ _ _ _).trans (by kernel_rfl)

/-! ### internal_strconv_FormatInt -/
noncomputable def internal_strconv_FormatInt_b : Code := (Go.Proofs.Tryd.f63.body).getD .skip
noncomputable abbrev internal_strconv_FormatInt_p (R : V → AH → Prop) : APost := postK prog (Go.Proofs.Tryd.f63.results.toList) R
def J_internal_strconv_FormatInt_1 (D : Den) (R : V → AH → Prop) (env : Env) (H : AH) : Prop := D (cAt [1, 1] internal_strconv_FormatInt_b) [] [] env H (internal_strconv_FormatInt_p R)
def J_internal_strconv_FormatInt_2 (D : Den) (R : V → AH → Prop) (env : Env) (H : AH) : Prop := D (cAt [1, 0, 1, 0, 1] internal_strconv_FormatInt_b) [] [1, 0] env H (seqQ (fun e H => J_internal_strconv_FormatInt_1 D R (keepE e [1, 0]) H) (internal_strconv_FormatInt_p R))
def J_internal_strconv_FormatInt_3 (D : Den) (R : V → AH → Prop) (env : Env) (H : AH) : Prop := D (cAt [1, 0, 1, 0, 0, 1] internal_strconv_FormatInt_b) [] [0] env H (seqQ (fun e H => J_internal_strconv_FormatInt_2 D R (keepE e [0]) H) (seqQ (fun e H => J_internal_strconv_FormatInt_1 D R (keepE e [1, 0]) H) (internal_strconv_FormatInt_p R)))
def J_internal_strconv_FormatInt_4 (D : Den) (R : V → AH → Prop) (env : Env) (H : AH) : Prop := D (cAt [1, 0, 1, 0, 1, 1, 1, 1] internal_strconv_FormatInt_b) [] [1, 0] env H (seqQ (fun e H => J_internal_strconv_FormatInt_1 D R (keepE e [1, 0]) H) (internal_strconv_FormatInt_p R))
def J_internal_strconv_FormatInt_5 (D : Den) (R : V → AH → Prop) (env : Env) (H : AH) : Prop := D (cAt [1, 0, 1, 0, 1, 1, 1, 1, 1, 1, 1] internal_strconv_FormatInt_b) [] [1, 0] env H (seqQ (fun e H => J_internal_strconv_FormatInt_1 D R (keepE e [1, 0]) H) (internal_strconv_FormatInt_p R))
theorem internal_strconv_FormatInt_in {args : List V} {H : AH} {R : V → AH → Prop} (h : ∀ D, IsD 54 [4] D → D internal_strconv_FormatInt_b [] [] (argEnv 0 args) H (internal_strconv_FormatInt_p R)) (hn : args.length ≤ 54 := by exact of_decide_eq_true rfl) : CallsA prog internal_strconv_FormatInt args H R := callsD_of Go.Proofs.Tryd.func63 (by kernel_rfl) (by kernel_rfl) (by kernel_rfl) (enters_of Go.Proofs.Tryd.func63 (by kernel_rfl) rfl) hn h
theorem internal_strconv_FormatInt_eq (hD : IsD 54 [4] D) {i0 base0 : Int} {H0 : AH} : D internal_strconv_FormatInt_b [] [] (argEnv 0 [V.int IntKind.i64 i0, V.int IntKind.i64 base0]) H0 (internal_strconv_FormatInt_p R) = (
  splitB (base0 == 10)
  (splitB (decide (0 ≤ i0)) (J_internal_strconv_FormatInt_3 D R [(17, V.bool (decide (i0 < 100))), (0, V.int IntKind.i64 i0)] H0)
    (J_internal_strconv_FormatInt_3 D R [(17, V.bool false), (0, V.int IntKind.i64 i0)] H0))
  (J_internal_strconv_FormatInt_1 D R [(1, V.int IntKind.i64 base0), (0, V.int IntKind.i64 i0)] H0)) := (hD _ _ _ _ _ _).trans (by kernel_rfl)
theorem J_internal_strconv_FormatInt_3_eq (hD : IsD 54 [4] D) {x170 : Bool} {i0 : Int} {H0 : AH} : J_internal_strconv_FormatInt_3 D R [(17, V.bool x170), (0, V.int IntKind.i64 i0)] H0 = (
  splitB x170 (CallsA prog internal_strconv_small [V.int IntKind.i64 i0] H0 fun v0 H1 => asStr v0 fun s0 => R (V.str s0) H1) (J_internal_strconv_FormatInt_2 D R [(0, V.int IntKind.i64 i0)] H0)) := (hD _ _ _ _ _ _).trans (by kernel_rfl)
theorem J_internal_strconv_FormatInt_1_eq (hD : IsD 54 [4] D) {base0 i0 : Int} {H0 : AH} : J_internal_strconv_FormatInt_1 D R [(1, V.int IntKind.i64 base0), (0, V.int IntKind.i64 i0)] H0 = (
  CallsA prog internal_strconv_formatBits [V.sl 0 0 0 Cap.nil, V.int IntKind.u64 (IntKind.u64.wrap i0), V.int IntKind.i64 base0, V.bool (decide (i0 < 0)), V.bool false] H0 fun v0 H1 =>
  asTup v0 fun l0 => uncons l0 fun v1 l1 => asSl v1 fun b0 i1 n0 c0 => uncons l1 fun v2 l2 => asStr v2 fun s0 => unnil l2 (R (V.str s0) H1)) := (hD _ _ _ _ _ _).trans (by kernel_rfl)
theorem J_internal_strconv_FormatInt_2_eq (hD : IsD 54 [4] D) {i0 : Int} {H0 : AH} : J_internal_strconv_FormatInt_2 D R [(0, V.int IntKind.i64 i0)] H0 = (
  splitB (decide (i0 < 0))
  (J_internal_strconv_FormatInt_4 D R [(6, V.int IntKind.u64 (IntKind.u64.wrap (0 - IntKind.u64.wrap i0))), (0, V.int IntKind.i64 i0), (5, V.ptr (List.length H0) 0)]
    (H0 ++ [Blk.cells (List.replicate 24 (V.int IntKind.u8 0)) false]))
  (J_internal_strconv_FormatInt_4 D R [(6, V.int IntKind.u64 (IntKind.u64.wrap i0)), (0, V.int IntKind.i64 i0), (5, V.ptr (List.length H0) 0)]
    (H0 ++ [Blk.cells (List.replicate 24 (V.int IntKind.u8 0)) false]))) := (hD _ _ _ _ _ _).trans (by kernel_rfl)
theorem J_internal_strconv_FormatInt_4_eq (hD : IsD 54 [4] D) {u0 i0 : Int} {a_b0 a_i0 : Nat} {H0 : AH} : J_internal_strconv_FormatInt_4 D R [(6, V.int IntKind.u64 u0), (0, V.int IntKind.i64 i0), (5, V.ptr a_b0 a_i0)] H0 = (
  CallsA prog internal_strconv_numDigits [V.int IntKind.u64 u0] H0 fun v0 H1 =>
  asInt IntKind.i64 v0 fun n0 =>
    inS 1 (IntKind.i64.wrap (1 + n0)) 24 ∧
      capFit (Cap.ex 24) 1 ∧
        CallsA prog internal_strconv_formatBase10 [V.sl a_b0 (a_i0 + 1) (IntKind.i64.wrap (1 + n0) - 1).toNat (Cap.ex 23), V.int IntKind.u64 u0] H1 fun v1 H2 =>
          splitB (decide (i0 < 0))
            (inB 0 24 ∧
              stK H2 a_b0 a_i0 [V.int IntKind.u8 45] fun H3 =>
                inS 0 (IntKind.i64.wrap (1 + n0)) 24 ∧ capFit (Cap.ex 24) 1 ∧ strK H3 a_b0 a_i0 (IntKind.i64.wrap (1 + n0) - 0).toNat fun s0 => R (V.str s0) H3)
            (J_internal_strconv_FormatInt_5 D R [(7, V.int IntKind.i64 n0), (5, V.ptr a_b0 a_i0)] H2)) := (hD _ _ _ _ _ _).trans (by kernel_rfl)
theorem J_internal_strconv_FormatInt_5_eq (hD : IsD 54 [4] D) {nd0 : Int} {a_b0 a_i0 : Nat} {H0 : AH} : J_internal_strconv_FormatInt_5 D R [(7, V.int IntKind.i64 nd0), (5, V.ptr a_b0 a_i0)] H0 = (
  inS 1 (IntKind.i64.wrap (1 + nd0)) 24 ∧ capFit (Cap.ex 24) 1 ∧ strK H0 a_b0 (a_i0 + 1) (IntKind.i64.wrap (1 + nd0) - 1).toNat fun s0 => R (V.str s0) H0) := (hD _ _ _ _ _ _).trans (by kernel_rfl)

/-! ### spec_l4Or -/
noncomputable def spec_l4Or_b : Code := (Go.Proofs.Tryd.f57.body).getD .skip
noncomputable abbrev spec_l4Or_p (R : V → AH → Prop) : APost := postK prog (Go.Proofs.Tryd.f57.results.toList) R
def J_spec_l4Or_1 (D : Den) (R : V → AH → Prop) (env : Env) (H : AH) : Prop := D (cAt [1, 1, 1] spec_l4Or_b) [] [] env H (spec_l4Or_p R)
def L_spec_l4Or_2 (D : Den) (R : V → AH → Prop) (env : Env) (H : AH) (K1 : Env → AH → Prop) : Prop := D (cAt [1, 1, 0, 1, 0, 0] spec_l4Or_b) [(0, [5])] [5, 6, 0, 1] env H (seqQ (fun e H => K1 (keepE e [5, 6, 0, 1]) H) (blockQ 0 (seqQ (fun e H => J_spec_l4Or_1 D R (keepE e [5]) H) (spec_l4Or_p R))))
def J_spec_l4Or_3 (D : Den) (R : V → AH → Prop) (K1 : Env → AH → Prop) (env : Env) (H : AH) : Prop := D (cAt [1, 1, 0, 1, 0, 0, 1] spec_l4Or_b) [(0, [5])] [5, 6, 0, 1] env H (seqQ (fun e H => K1 (keepE e [5, 6, 0, 1]) H) (blockQ 0 (seqQ (fun e H => J_spec_l4Or_1 D R (keepE e [5]) H) (spec_l4Or_p R))))
def J_spec_l4Or_4 (D : Den) (R : V → AH → Prop) (K1 : Env → AH → Prop) (env : Env) (H : AH) : Prop := D (cAt [1, 1, 0, 1, 0, 0, 1, 1] spec_l4Or_b) [(0, [5])] [5, 6, 0, 1] env H (seqQ (fun e H => K1 (keepE e [5, 6, 0, 1]) H) (blockQ 0 (seqQ (fun e H => J_spec_l4Or_1 D R (keepE e [5]) H) (spec_l4Or_p R))))
theorem spec_l4Or_in {args : List V} {H : AH} {R : V → AH → Prop} (h : ∀ D, IsD 28 [4] D → D spec_l4Or_b [] [] (argEnv 0 args) H (spec_l4Or_p R)) (hn : args.length ≤ 28 := by exact of_decide_eq_true rfl) : CallsA prog spec_l4Or args H R := callsD_of Go.Proofs.Tryd.func57 (by kernel_rfl) (by kernel_rfl) (by kernel_rfl) (enters_of Go.Proofs.Tryd.func57 (by kernel_rfl) rfl) hn h
theorem spec_l4Or_eq (hD : IsD 28 [4] D) {a_b0 a_i0 a_n0 : Nat} {a_c0 : Cap} {b_b0 b_i0 b_n0 : Nat} {b_c0 : Cap} {H0 : AH} : D spec_l4Or_b [] [] (argEnv 0 [V.sl a_b0 a_i0 a_n0 a_c0, V.sl b_b0 b_i0 b_n0 b_c0]) H0 (spec_l4Or_p R) = (
  LoopI (L_spec_l4Or_2 D R) [(5, V.sl (List.length H0) 0 0 (Cap.ex 0)), (6, V.int IntKind.i64 0), (0, V.sl a_b0 a_i0 a_n0 a_c0), (1, V.sl b_b0 b_i0 b_n0 b_c0)] (H0 ++ [Blk.cells [] false])) := (hD _ _ _ _ _ _).trans (by kernel_rfl)
theorem L_spec_l4Or_2_eq (hD : IsD 28 [4] D) {out_b0 out_i0 out_n0 : Nat} {out_c0 : Cap} {i0 : Int} {a_b0 a_i0 a_n0 : Nat} {a_c0 : Cap} {b_b0 b_i0 b_n0 : Nat} {b_c0 : Cap} {H0 : AH} : L_spec_l4Or_2 D R [(5, V.sl out_b0 out_i0 out_n0 out_c0), (6, V.int IntKind.i64 i0), (0, V.sl a_b0 a_i0 a_n0 a_c0), (1, V.sl b_b0 b_i0 b_n0 b_c0)] H0 K1 = (
  splitB (decide (i0 < (↑a_n0 : Int)))
  (J_spec_l4Or_3 D R K1 [(5, V.sl out_b0 out_i0 out_n0 out_c0), (6, V.int IntKind.i64 i0), (0, V.sl a_b0 a_i0 a_n0 a_c0), (1, V.sl b_b0 b_i0 b_n0 b_c0)] H0)
  (J_spec_l4Or_1 D R [(5, V.sl out_b0 out_i0 out_n0 out_c0)] H0)) := (hD _ _ _ _ _ _).trans (by kernel_rfl)
theorem J_spec_l4Or_3_eq (hD : IsD 28 [4] D) {out_b0 out_i0 out_n0 : Nat} {out_c0 : Cap} {i0 : Int} {a_b0 a_i0 a_n0 : Nat} {a_c0 : Cap} {b_b0 b_i0 b_n0 : Nat} {b_c0 : Cap} {H0 : AH} : J_spec_l4Or_3 D R K1 [(5, V.sl out_b0 out_i0 out_n0 out_c0), (6, V.int IntKind.i64 i0), (0, V.sl a_b0 a_i0 a_n0 a_c0), (1, V.sl b_b0 b_i0 b_n0 b_c0)] H0 = (
  inB i0 a_n0 ∧
  ld H0 a_b0 (a_i0 + i0.toNat * 1) fun v0 =>
    asBool v0 fun t0 =>
      splitB t0
        (cellsK (H0 ++ [Blk.cells [V.bool true] false]) (List.length H0) 0 1 fun l0 =>
          app (H0 ++ [Blk.cells [V.bool true] false]) 1 1 out_b0 out_i0 out_n0 out_c0 1 l0 fun b0 i1 n0 c0 H1 =>
            J_spec_l4Or_4 D R K1 [(6, V.int IntKind.i64 i0), (5, V.sl b0 i1 n0 c0), (0, V.sl a_b0 a_i0 a_n0 a_c0), (1, V.sl b_b0 b_i0 b_n0 b_c0)] H1)
        (inB i0 b_n0 ∧
          ld H0 b_b0 (b_i0 + i0.toNat * 1) fun v1 =>
            asBool v1 fun t1 =>
              cellsK (H0 ++ [Blk.cells [V.bool t1] false]) (List.length H0) 0 1 fun l1 =>
                app (H0 ++ [Blk.cells [V.bool t1] false]) 1 1 out_b0 out_i0 out_n0 out_c0 1 l1 fun b1 i2 n1 c1 H2 =>
                  J_spec_l4Or_4 D R K1 [(6, V.int IntKind.i64 i0), (5, V.sl b1 i2 n1 c1), (0, V.sl a_b0 a_i0 a_n0 a_c0), (1, V.sl b_b0 b_i0 b_n0 b_c0)] H2)) := (hD _ _ _ _ _ _).trans (by kernel_rfl)
theorem J_spec_l4Or_1_eq (hD : IsD 28 [4] D) {out_b0 out_i0 out_n0 : Nat} {out_c0 : Cap} {H0 : AH} : J_spec_l4Or_1 D R [(5, V.sl out_b0 out_i0 out_n0 out_c0)] H0 = (
  R (V.sl out_b0 out_i0 out_n0 out_c0) H0) := (hD _ _ _ _ _ _).trans (by kernel_rfl)
theorem J_spec_l4Or_4_eq (hD : IsD 28 [4] D) {i0 : Int} {out_b0 out_i0 out_n0 : Nat} {out_c0 : Cap} {a_b0 a_i0 a_n0 : Nat} {a_c0 : Cap} {b_b0 b_i0 b_n0 : Nat} {b_c0 : Cap} {H0 : AH} : J_spec_l4Or_4 D R K1 [(6, V.int IntKind.i64 i0), (5, V.sl out_b0 out_i0 out_n0 out_c0), (0, V.sl a_b0 a_i0 a_n0 a_c0), (1, V.sl b_b0 b_i0 b_n0 b_c0)] H0 = (
  K1 [(5, V.sl out_b0 out_i0 out_n0 out_c0), (6, V.int IntKind.i64 (IntKind.i64.wrap (i0 + 1))), (0, V.sl a_b0 a_i0 a_n0 a_c0), (1, V.sl b_b0 b_i0 b_n0 b_c0)] H0) := (hD _ _ _ _ _ _).trans (by kernel_rfl)

/-! ### slices_IndexFunc_int64_int64 -/
noncomputable def slices_IndexFunc_int64_int64_b : Code := (Go.Proofs.Tryd.f72.body).getD .skip
noncomputable abbrev slices_IndexFunc_int64_int64_p (R : V → AH → Prop) : APost := postK prog (Go.Proofs.Tryd.f72.results.toList) R
def J_slices_IndexFunc_int64_int64_1 (D : Den) (R : V → AH → Prop) (env : Env) (H : AH) : Prop := D (cAt [1, 1] slices_IndexFunc_int64_int64_b) [] [] env H (slices_IndexFunc_int64_int64_p R)
def L_slices_IndexFunc_int64_int64_2 (D : Den) (R : V → AH → Prop) (env : Env) (H : AH) (K1 : Env → AH → Prop) : Prop := D (cAt [1, 0, 1, 0, 0] slices_IndexFunc_int64_int64_b) [(0, [])] [7, 1, 0, 8] env H (seqQ (fun e H => K1 (keepE e [7, 1, 0, 8]) H) (blockQ 0 (seqQ (fun e H => J_slices_IndexFunc_int64_int64_1 D R (keepE e []) H) (slices_IndexFunc_int64_int64_p R))))
def J_slices_IndexFunc_int64_int64_3 (D : Den) (R : V → AH → Prop) (K1 : Env → AH → Prop) (env : Env) (H : AH) : Prop := D (cAt [1, 0, 1, 0, 0, 1, 1] slices_IndexFunc_int64_int64_b) [(0, [])] [7, 1, 0, 8] env H (seqQ (fun e H => K1 (keepE e [7, 1, 0, 8]) H) (blockQ 0 (seqQ (fun e H => J_slices_IndexFunc_int64_int64_1 D R (keepE e []) H) (slices_IndexFunc_int64_int64_p R))))
def J_slices_IndexFunc_int64_int64_4 (D : Den) (R : V → AH → Prop) (K1 : Env → AH → Prop) (env : Env) (H : AH) : Prop := D (cAt [1, 0, 1, 0, 0, 1, 1, 1] slices_IndexFunc_int64_int64_b) [(0, [])] [7, 1, 0, 8] env H (seqQ (fun e H => K1 (keepE e [7, 1, 0, 8]) H) (blockQ 0 (seqQ (fun e H => J_slices_IndexFunc_int64_int64_1 D R (keepE e []) H) (slices_IndexFunc_int64_int64_p R))))
theorem slices_IndexFunc_int64_int64_in {args : List V} {H : AH} {R : V → AH → Prop} (h : ∀ D, IsD 19 [4] D → D slices_IndexFunc_int64_int64_b [] [] (argEnv 0 args) H (slices_IndexFunc_int64_int64_p R)) (hn : args.length ≤ 19 := by exact of_decide_eq_true rfl) : CallsA prog slices_IndexFunc_int64_int64 args H R := callsD_of Go.Proofs.Tryd.func72 (by kernel_rfl) (by kernel_rfl) (by kernel_rfl) (enters_of Go.Proofs.Tryd.func72 (by kernel_rfl) rfl) hn h
theorem slices_IndexFunc_int64_int64_eq (hD : IsD 19 [4] D) {s_b0 s_i0 s_n0 : Nat} {s_c0 : Cap} {f_f0 : Nat} {f_a0 f_c0 : List V} {H0 : AH} : D slices_IndexFunc_int64_int64_b [] [] (argEnv 0 [V.sl s_b0 s_i0 s_n0 s_c0, V.fn f_f0 f_a0 f_c0]) H0 (slices_IndexFunc_int64_int64_p R) = (
  LoopI (L_slices_IndexFunc_int64_int64_2 D R) [(7, V.int IntKind.i64 (↑s_n0 : Int)), (1, V.fn f_f0 f_a0 f_c0), (0, V.sl s_b0 s_i0 s_n0 s_c0), (8, V.int IntKind.i64 0)] H0) := (hD _ _ _ _ _ _).trans (by kernel_rfl)
theorem L_slices_IndexFunc_int64_int64_2_eq (hD : IsD 19 [4] D) {x70 : Int} {f_f0 : Nat} {f_a0 f_c0 : List V} {s_b0 s_i0 s_n0 : Nat} {s_c0 : Cap} {x80 : Int} {H0 : AH} : L_slices_IndexFunc_int64_int64_2 D R [(7, V.int IntKind.i64 x70), (1, V.fn f_f0 f_a0 f_c0), (0, V.sl s_b0 s_i0 s_n0 s_c0), (8, V.int IntKind.i64 x80)] H0 K1 = (
  splitB (decide (x80 < x70))
  (J_slices_IndexFunc_int64_int64_3 D R K1 [(0, V.sl s_b0 s_i0 s_n0 s_c0), (1, V.fn f_f0 f_a0 f_c0), (7, V.int IntKind.i64 x70), (8, V.int IntKind.i64 x80)] H0)
  (J_slices_IndexFunc_int64_int64_1 D R [] H0)) := (hD _ _ _ _ _ _).trans (by kernel_rfl)
theorem J_slices_IndexFunc_int64_int64_3_eq (hD : IsD 19 [4] D) {s_b0 s_i0 s_n0 : Nat} {s_c0 : Cap} {f_f0 : Nat} {f_a0 f_c0 : List V} {x70 x80 : Int} {H0 : AH} : J_slices_IndexFunc_int64_int64_3 D R K1 [(0, V.sl s_b0 s_i0 s_n0 s_c0), (1, V.fn f_f0 f_a0 f_c0), (7, V.int IntKind.i64 x70), (8, V.int IntKind.i64 x80)] H0 = (
  inB x80 s_n0 ∧
  ld H0 s_b0 (s_i0 + x80.toNat * 1) fun v0 =>
    asInt IntKind.i64 v0 fun n0 =>
      CallsA prog f_f0 (f_a0 ++ [V.int IntKind.i64 n0] ++ f_c0) H0 fun v1 H1 =>
        asBool v1 fun t0 =>
          splitB t0 (R (V.int IntKind.i64 x80) H1)
            (J_slices_IndexFunc_int64_int64_4 D R K1 [(8, V.int IntKind.i64 x80), (7, V.int IntKind.i64 x70), (1, V.fn f_f0 f_a0 f_c0), (0, V.sl s_b0 s_i0 s_n0 s_c0)] H1)) := (hD _ _ _ _ _ _).trans (by kernel_rfl)
theorem J_slices_IndexFunc_int64_int64_1_eq (hD : IsD 19 [4] D) {H0 : AH} : J_slices_IndexFunc_int64_int64_1 D R [] H0 = (
  R (V.int IntKind.i64 (-1)) H0) := (hD _ _ _ _ _ _).trans (by kernel_rfl)
theorem J_slices_IndexFunc_int64_int64_4_eq (hD : IsD 19 [4] D) {x80 x70 : Int} {f_f0 : Nat} {f_a0 f_c0 : List V} {s_b0 s_i0 s_n0 : Nat} {s_c0 : Cap} {H0 : AH} : J_slices_IndexFunc_int64_int64_4 D R K1 [(8, V.int IntKind.i64 x80), (7, V.int IntKind.i64 x70), (1, V.fn f_f0 f_a0 f_c0), (0, V.sl s_b0 s_i0 s_n0 s_c0)] H0 = (
  K1 [(7, V.int IntKind.i64 x70), (1, V.fn f_f0 f_a0 f_c0), (0, V.sl s_b0 s_i0 s_n0 s_c0), (8, V.int IntKind.i64 (IntKind.i64.wrap (x80 + 1)))] H0) := (hD _ _ _ _ _ _).trans (by kernel_rfl)

/-! ### spec_l1Rd_word -/
noncomputable def spec_l1Rd_word_b : Code := (Go.Proofs.Tryd.f52.body).getD .skip
noncomputable abbrev spec_l1Rd_word_p (R : V → AH → Prop) : APost := postK prog (Go.Proofs.Tryd.f52.results.toList) R
def J_spec_l1Rd_word_1 (D : Den) (R : V → AH → Prop) (env : Env) (H : AH) : Prop := D (cAt [1, 1, 1] spec_l1Rd_word_b) [] [] env H (spec_l1Rd_word_p R)
def L_spec_l1Rd_word_2 (D : Den) (R : V → AH → Prop) (env : Env) (H : AH) (K1 : Env → AH → Prop) : Prop := D (cAt [1, 1, 0, 1, 0, 0] spec_l1Rd_word_b) [(0, [3])] [3, 4, 0] env H (seqQ (fun e H => K1 (keepE e [3, 4, 0]) H) (blockQ 0 (seqQ (fun e H => J_spec_l1Rd_word_1 D R (keepE e [3]) H) (spec_l1Rd_word_p R))))
def J_spec_l1Rd_word_3 (D : Den) (R : V → AH → Prop) (K1 : Env → AH → Prop) (env : Env) (H : AH) : Prop := D (cAt [1, 1, 0, 1, 0, 0, 1] spec_l1Rd_word_b) [(0, [3])] [3, 4, 0] env H (seqQ (fun e H => K1 (keepE e [3, 4, 0]) H) (blockQ 0 (seqQ (fun e H => J_spec_l1Rd_word_1 D R (keepE e [3]) H) (spec_l1Rd_word_p R))))
def J_spec_l1Rd_word_4 (D : Den) (R : V → AH → Prop) (K1 : Env → AH → Prop) (env : Env) (H : AH) : Prop := D (cAt [1, 1, 0, 1, 0, 0, 1, 1] spec_l1Rd_word_b) [(0, [3])] [3, 4, 0] env H (seqQ (fun e H => K1 (keepE e [3, 4, 0]) H) (blockQ 0 (seqQ (fun e H => J_spec_l1Rd_word_1 D R (keepE e [3]) H) (spec_l1Rd_word_p R))))
theorem spec_l1Rd_word_in {args : List V} {H : AH} {R : V → AH → Prop} (h : ∀ D, IsD 16 [2] D → D spec_l1Rd_word_b [] [] (argEnv 0 args) H (spec_l1Rd_word_p R)) (hn : args.length ≤ 16 := by exact of_decide_eq_true rfl) : CallsA prog spec_l1Rd_word args H R := callsD_of Go.Proofs.Tryd.func52 (by kernel_rfl) (by kernel_rfl) (by kernel_rfl) (enters_of Go.Proofs.Tryd.func52 (by kernel_rfl) rfl) hn h
theorem spec_l1Rd_word_eq (hD : IsD 16 [2] D) {r_b0 r_i0 : Nat} {H0 : AH} : D spec_l1Rd_word_b [] [] (argEnv 0 [V.ptr r_b0 r_i0]) H0 (spec_l1Rd_word_p R) = (
  LoopI (L_spec_l1Rd_word_2 D R) [(3, V.int IntKind.u64 0), (4, V.int IntKind.i64 0), (0, V.ptr r_b0 r_i0)] H0) := (hD _ _ _ _ _ _).trans (by kernel_rfl)
theorem L_spec_l1Rd_word_2_eq (hD : IsD 16 [2] D) {x0 i0 : Int} {r_b0 r_i0 : Nat} {H0 : AH} : L_spec_l1Rd_word_2 D R [(3, V.int IntKind.u64 x0), (4, V.int IntKind.i64 i0), (0, V.ptr r_b0 r_i0)] H0 K1 = (
  splitB (decide (i0 < 8)) (J_spec_l1Rd_word_3 D R K1 [(3, V.int IntKind.u64 x0), (4, V.int IntKind.i64 i0), (0, V.ptr r_b0 r_i0)] H0)
  (J_spec_l1Rd_word_1 D R [(3, V.int IntKind.u64 x0)] H0)) := (hD _ _ _ _ _ _).trans (by kernel_rfl)
theorem J_spec_l1Rd_word_3_eq (hD : IsD 16 [2] D) {x0 i0 : Int} {r_b0 r_i0 : Nat} {H0 : AH} : J_spec_l1Rd_word_3 D R K1 [(3, V.int IntKind.u64 x0), (4, V.int IntKind.i64 i0), (0, V.ptr r_b0 r_i0)] H0 = (
  nn 8 ∧
  CallsA prog spec_l1Rd_next [V.ptr r_b0 r_i0] H0 fun v0 H1 =>
    asInt IntKind.i64 v0 fun n0 =>
      J_spec_l1Rd_word_4 D R K1
        [(4, V.int IntKind.i64 i0), (3, V.int IntKind.u64 (IntKind.u64.wrap (↑(BitVec.ofInt 64 (shlI IntKind.u64 x0 8) ||| BitVec.ofInt 64 (IntKind.u64.wrap n0)).toNat : Int))), (0, V.ptr r_b0 r_i0)]
        H1) := (hD _ _ _ _ _ _).trans (by kernel_rfl)
theorem J_spec_l1Rd_word_1_eq (hD : IsD 16 [2] D) {x0 : Int} {H0 : AH} : J_spec_l1Rd_word_1 D R [(3, V.int IntKind.u64 x0)] H0 = (
  R (V.int IntKind.u64 x0) H0) := (hD _ _ _ _ _ _).trans (by kernel_rfl)
theorem J_spec_l1Rd_word_4_eq (hD : IsD 16 [2] D) {i0 x0 : Int} {r_b0 r_i0 : Nat} {H0 : AH} : J_spec_l1Rd_word_4 D R K1 [(4, V.int IntKind.i64 i0), (3, V.int IntKind.u64 x0), (0, V.ptr r_b0 r_i0)] H0 = (
  K1 [(3, V.int IntKind.u64 x0), (4, V.int IntKind.i64 (IntKind.i64.wrap (i0 + 1))), (0, V.ptr r_b0 r_i0)] H0) := (hD _ _ _ _ _ _).trans (by kernel_rfl)

/-! ### impl_kidsOf -/
noncomputable def impl_kidsOf_b : Code := (Go.Proofs.Tryd.f59.body).getD .skip
noncomputable abbrev impl_kidsOf_p (R : V → AH → Prop) : APost := postK prog (Go.Proofs.Tryd.f59.results.toList) R
def J_impl_kidsOf_1 (D : Den) (R : V → AH → Prop) (env : Env) (H : AH) : Prop := D (cAt [1, 1] impl_kidsOf_b) [] [] env H (impl_kidsOf_p R)
def J_impl_kidsOf_2 (D : Den) (R : V → AH → Prop) (env : Env) (H : AH) : Prop := D (cAt [1, 0, 1, 0, 1] impl_kidsOf_b) [(0, [])] [] env H (blockQ 0 (seqQ (fun e H => J_impl_kidsOf_1 D R (keepE e []) H) (impl_kidsOf_p R)))
def J_impl_kidsOf_3 (D : Den) (R : V → AH → Prop) (env : Env) (H : AH) : Prop := D (cAt [1, 0, 1, 0, 1, 1, 1] impl_kidsOf_b) [(0, [])] [] env H (blockQ 0 (seqQ (fun e H => J_impl_kidsOf_1 D R (keepE e []) H) (impl_kidsOf_p R)))
def J_impl_kidsOf_4 (D : Den) (R : V → AH → Prop) (env : Env) (H : AH) : Prop := D (cAt [1, 0, 1, 0, 1, 1, 1, 1, 1] impl_kidsOf_b) [(0, [])] [] env H (blockQ 0 (seqQ (fun e H => J_impl_kidsOf_1 D R (keepE e []) H) (impl_kidsOf_p R)))
theorem impl_kidsOf_in {args : List V} {H : AH} {R : V → AH → Prop} (h : ∀ D, IsD 15 [2] D → D impl_kidsOf_b [] [] (argEnv 0 args) H (impl_kidsOf_p R)) (hn : args.length ≤ 15 := by exact of_decide_eq_true rfl) : CallsA prog impl_kidsOf args H R := callsD_of Go.Proofs.Tryd.func59 (by kernel_rfl) (by kernel_rfl) (by kernel_rfl) (enters_of Go.Proofs.Tryd.func59 (by kernel_rfl) rfl) hn h
theorem impl_kidsOf_eq (hD : IsD 15 [2] D) {op0 : Int} {H0 : AH} : D impl_kidsOf_b [] [] (argEnv 0 [V.int IntKind.i64 op0]) H0 (impl_kidsOf_p R) = (
  splitB (op0 == 1) (J_impl_kidsOf_2 D R [(4, V.bool (op0 == 1)), (3, V.int IntKind.i64 op0)] H0) (J_impl_kidsOf_2 D R [(4, V.bool (op0 == 2)), (3, V.int IntKind.i64 op0)] H0)) := (hD _ _ _ _ _ _).trans (by kernel_rfl)
theorem J_impl_kidsOf_2_eq (hD : IsD 15 [2] D) {x40 : Bool} {x30 : Int} {H0 : AH} : J_impl_kidsOf_2 D R [(4, V.bool x40), (3, V.int IntKind.i64 x30)] H0 = (
  splitB x40 (R (V.int IntKind.i64 0) H0)
  (splitB (x30 == 3) (J_impl_kidsOf_3 D R [(7, V.bool (x30 == 3)), (3, V.int IntKind.i64 x30)] H0)
    (J_impl_kidsOf_3 D R [(7, V.bool (x30 == 4)), (3, V.int IntKind.i64 x30)] H0))) := (hD _ _ _ _ _ _).trans (by kernel_rfl)
theorem J_impl_kidsOf_3_eq (hD : IsD 15 [2] D) {x70 : Bool} {x30 : Int} {H0 : AH} : J_impl_kidsOf_3 D R [(7, V.bool x70), (3, V.int IntKind.i64 x30)] H0 = (
  splitB x70 (R (V.int IntKind.i64 2) H0)
  (splitB (x30 == 5) (J_impl_kidsOf_4 D R [(10, V.bool (x30 == 5))] H0)
    (splitB (x30 == 6) (J_impl_kidsOf_4 D R [(10, V.bool (x30 == 6))] H0)
      (splitB (x30 == 7) (J_impl_kidsOf_4 D R [(10, V.bool (x30 == 7))] H0) (J_impl_kidsOf_4 D R [(10, V.bool (x30 == 8))] H0))))) := (hD _ _ _ _ _ _).trans (by kernel_rfl)
theorem J_impl_kidsOf_4_eq (hD : IsD 15 [2] D) {x100 : Bool} {H0 : AH} : J_impl_kidsOf_4 D R [(10, V.bool x100)] H0 = (
  splitB x100 (R (V.int IntKind.i64 1) H0) (J_impl_kidsOf_1 D R [] H0)) := (hD _ _ _ _ _ _).trans (by kernel_rfl)
theorem J_impl_kidsOf_1_eq (hD : IsD 15 [2] D) {H0 : AH} : J_impl_kidsOf_1 D R [] H0 = (
  R (V.int IntKind.i64 (-1)) H0) := (hD _ _ _ _ _ _).trans (by kernel_rfl)

/-! ### internal_strconv_AppendInt -/
noncomputable def internal_strconv_AppendInt_b : Code := (Go.Proofs.Tryd.f64.body).getD .skip
noncomputable abbrev internal_strconv_AppendInt_p (R : V → AH → Prop) : APost := postK prog (Go.Proofs.Tryd.f64.results.toList) R
def J_internal_strconv_AppendInt_1 (D : Den) (R : V → AH → Prop) (env : Env) (H : AH) : Prop := D (cAt [1, 1, 1] internal_strconv_AppendInt_b) [] [] env H (internal_strconv_AppendInt_p R)
theorem internal_strconv_AppendInt_in {args : List V} {H : AH} {R : V → AH → Prop} (h : ∀ D, IsD 21 [6] D → D internal_strconv_AppendInt_b [] [] (argEnv 0 args) H (internal_strconv_AppendInt_p R)) (hn : args.length ≤ 21 := by exact of_decide_eq_true rfl) : CallsA prog internal_strconv_AppendInt args H R := callsD_of Go.Proofs.Tryd.func64 (by kernel_rfl) (by kernel_rfl) (by kernel_rfl) (enters_of Go.Proofs.Tryd.func64 (by kernel_rfl) rfl) hn h
theorem internal_strconv_AppendInt_eq (hD : IsD 21 [6] D) {dst_b0 dst_i0 dst_n0 : Nat} {dst_c0 : Cap} {i0 base0 : Int} {H0 : AH} : D internal_strconv_AppendInt_b [] [] (argEnv 0 [V.sl dst_b0 dst_i0 dst_n0 dst_c0, V.int IntKind.i64 i0, V.int IntKind.i64 base0]) H0 (internal_strconv_AppendInt_p R) = (
  splitB (decide (i0 < 0))
  (cellsK (H0 ++ [Blk.cells [V.int IntKind.u8 45] false]) (List.length H0) 0 1 fun l0 =>
    app (H0 ++ [Blk.cells [V.int IntKind.u8 45] false]) 1 1 dst_b0 dst_i0 dst_n0 dst_c0 1 l0 fun b0 i1 n0 c0 H1 =>
      J_internal_strconv_AppendInt_1 D R [(0, V.sl b0 i1 n0 c0), (7, V.int IntKind.u64 (IntKind.u64.wrap (0 - IntKind.u64.wrap i0))), (2, V.int IntKind.i64 base0)] H1)
  (J_internal_strconv_AppendInt_1 D R [(0, V.sl dst_b0 dst_i0 dst_n0 dst_c0), (7, V.int IntKind.u64 (IntKind.u64.wrap i0)), (2, V.int IntKind.i64 base0)] H0)) := (hD _ _ _ _ _ _).trans (by kernel_rfl)
theorem J_internal_strconv_AppendInt_1_eq (hD : IsD 21 [6] D) {dst_b0 dst_i0 dst_n0 : Nat} {dst_c0 : Cap} {u0 base0 : Int} {H0 : AH} : J_internal_strconv_AppendInt_1 D R [(0, V.sl dst_b0 dst_i0 dst_n0 dst_c0), (7, V.int IntKind.u64 u0), (2, V.int IntKind.i64 base0)] H0 = (
  CallsA prog internal_strconv_AppendUint [V.sl dst_b0 dst_i0 dst_n0 dst_c0, V.int IntKind.u64 u0, V.int IntKind.i64 base0] H0 fun v0 H1 => asSl v0 fun b0 i0 n0 c0 => R (V.sl b0 i0 n0 c0) H1) := (hD _ _ _ _ _ _).trans (by kernel_rfl)

/-! ### spec_l1Rd_below -/
noncomputable def spec_l1Rd_below_b : Code := (Go.Proofs.Tryd.f17.body).getD .skip
noncomputable abbrev spec_l1Rd_below_p (R : V → AH → Prop) : APost := postK prog (Go.Proofs.Tryd.f17.results.toList) R
def J_spec_l1Rd_below_1 (D : Den) (R : V → AH → Prop) (env : Env) (H : AH) : Prop := D (cAt [1, 1] spec_l1Rd_below_b) [] [] env H (spec_l1Rd_below_p R)
def J_spec_l1Rd_below_2 (D : Den) (R : V → AH → Prop) (env : Env) (H : AH) : Prop := D (cAt [1, 1, 1] spec_l1Rd_below_b) [] [] env H (spec_l1Rd_below_p R)
theorem spec_l1Rd_below_in {args : List V} {H : AH} {R : V → AH → Prop} (h : ∀ D, IsD 24 [4] D → D spec_l1Rd_below_b [] [] (argEnv 0 args) H (spec_l1Rd_below_p R)) (hn : args.length ≤ 24 := by exact of_decide_eq_true rfl) : CallsA prog spec_l1Rd_below args H R := callsD_of Go.Proofs.Tryd.func17 (by kernel_rfl) (by kernel_rfl) (by kernel_rfl) (enters_of Go.Proofs.Tryd.func17 (by kernel_rfl) rfl) hn h
theorem spec_l1Rd_below_eq (hD : IsD 24 [4] D) {r_b0 r_i0 : Nat} {n0 : Int} {H0 : AH} : D spec_l1Rd_below_b [] [] (argEnv 0 [V.ptr r_b0 r_i0, V.int IntKind.i64 n0]) H0 (spec_l1Rd_below_p R) = (
  splitB (decide (n0 ≤ 1)) (R (V.int IntKind.i64 0) H0) (J_spec_l1Rd_below_1 D R [(0, V.ptr r_b0 r_i0), (1, V.int IntKind.i64 n0)] H0)) := (hD _ _ _ _ _ _).trans (by kernel_rfl)
theorem J_spec_l1Rd_below_1_eq (hD : IsD 24 [4] D) {r_b0 r_i0 : Nat} {n0 : Int} {H0 : AH} : J_spec_l1Rd_below_1 D R [(0, V.ptr r_b0 r_i0), (1, V.int IntKind.i64 n0)] H0 = (
  splitB (decide (n0 ≤ 256)) (CallsA prog spec_l1Rd_next [V.ptr r_b0 r_i0] H0 fun v0 H1 => asInt IntKind.i64 v0 fun n1 => nz n0 ∧ R (V.int IntKind.i64 (n1.tmod n0)) H1)
  (J_spec_l1Rd_below_2 D R [(0, V.ptr r_b0 r_i0), (1, V.int IntKind.i64 n0)] H0)) := (hD _ _ _ _ _ _).trans (by kernel_rfl)
theorem J_spec_l1Rd_below_2_eq (hD : IsD 24 [4] D) {r_b0 r_i0 : Nat} {n0 : Int} {H0 : AH} : J_spec_l1Rd_below_2 D R [(0, V.ptr r_b0 r_i0), (1, V.int IntKind.i64 n0)] H0 = (
  CallsA prog spec_l1Rd_next [V.ptr r_b0 r_i0] H0 fun v0 H1 =>
  asInt IntKind.i64 v0 fun n1 =>
    CallsA prog spec_l1Rd_next [V.ptr r_b0 r_i0] H1 fun v1 H2 => asInt IntKind.i64 v1 fun n2 => nz n0 ∧ R (V.int IntKind.i64 ((IntKind.i64.wrap (IntKind.i64.wrap (n1 * 256) + n2)).tmod n0)) H2) := (hD _ _ _ _ _ _).trans (by kernel_rfl)

/-! ### impl_places_same -/
noncomputable def impl_places_same_b : Code := (Go.Proofs.Tryd.f67.body).getD .skip
noncomputable abbrev impl_places_same_p (R : V → AH → Prop) : APost := postK prog (Go.Proofs.Tryd.f67.results.toList) R
def J_impl_places_same_1 (D : Den) (R : V → AH → Prop) (env : Env) (H : AH) : Prop := D (cAt [1, 1] impl_places_same_b) [] [] env H (impl_places_same_p R)
theorem impl_places_same_in {args : List V} {H : AH} {R : V → AH → Prop} (h : ∀ D, IsD 15 [4] D → D impl_places_same_b [] [] (argEnv 0 args) H (impl_places_same_p R)) (hn : args.length ≤ 15 := by exact of_decide_eq_true rfl) : CallsA prog impl_places_same args H R := callsD_of Go.Proofs.Tryd.func67 (by kernel_rfl) (by kernel_rfl) (by kernel_rfl) (enters_of Go.Proofs.Tryd.func67 (by kernel_rfl) rfl) hn h
theorem impl_places_same_eq (hD : IsD 15 [4] D) {p_b0 p_i0 p_n0 : Nat} {p_c0 : Cap} {q_b0 q_i0 q_n0 : Nat} {q_c0 : Cap} {H0 : AH} : D impl_places_same_b [] [] (argEnv 0 [V.sl p_b0 p_i0 p_n0 p_c0, V.sl q_b0 q_i0 q_n0 q_c0]) H0 (impl_places_same_p R) = (
  CallsA prog impl_places_without [V.sl p_b0 p_i0 p_n0 p_c0, V.sl q_b0 q_i0 q_n0 q_c0] H0 fun v0 H1 =>
  asSl v0 fun b0 i0 n0 c0 =>
    CallsA prog impl_places_isEmpty [V.sl b0 i0 n0 c0] H1 fun v1 H2 =>
      asBool v1 fun t0 =>
        splitB t0
          (CallsA prog impl_places_without [V.sl q_b0 q_i0 q_n0 q_c0, V.sl p_b0 p_i0 p_n0 p_c0] H2 fun v2 H3 =>
            asSl v2 fun b1 i1 n1 c1 => CallsA prog impl_places_isEmpty [V.sl b1 i1 n1 c1] H3 fun v3 H4 => asBool v3 fun t1 => J_impl_places_same_1 D R [(4, V.bool t1)] H4)
          (J_impl_places_same_1 D R [(4, V.bool false)] H2)) := (hD _ _ _ _ _ _).trans (by kernel_rfl)
theorem J_impl_places_same_1_eq (hD : IsD 15 [4] D) {x40 : Bool} {H0 : AH} : J_impl_places_same_1 D R [(4, V.bool x40)] H0 = (
  R (V.bool x40) H0) := (hD _ _ _ _ _ _).trans (by kernel_rfl)

/-! ### spec_Others -/
noncomputable def spec_Others_b : Code := (Go.Proofs.Tryd.f70.body).getD .skip
noncomputable abbrev spec_Others_p (R : V → AH → Prop) : APost := postK prog (Go.Proofs.Tryd.f70.results.toList) R
def J_spec_Others_1 (D : Den) (R : V → AH → Prop) (env : Env) (H : AH) : Prop := D (cAt [1, 1] spec_Others_b) [] [] env H (spec_Others_p R)
theorem spec_Others_in {args : List V} {H : AH} {R : V → AH → Prop} (h : ∀ D, IsD 11 [2] D → D spec_Others_b [] [] (argEnv 0 args) H (spec_Others_p R)) (hn : args.length ≤ 11 := by exact of_decide_eq_true rfl) : CallsA prog spec_Others args H R := callsD_of Go.Proofs.Tryd.func70 (by kernel_rfl) (by kernel_rfl) (by kernel_rfl) (enters_of Go.Proofs.Tryd.func70 (by kernel_rfl) rfl) hn h
theorem spec_Others_eq (hD : IsD 11 [2] D) {c_b0 c_i0 c_n0 : Nat} {c_c0 : Cap} {H0 : AH} : D spec_Others_b [] [] (argEnv 0 [V.sl c_b0 c_i0 c_n0 c_c0]) H0 (spec_Others_p R) = (
  CallsA prog spec_ClassOk [V.sl c_b0 c_i0 c_n0 c_c0] H0 fun v0 H1 =>
  asBool v0 fun t0 => splitB (!t0) (R (V.sl (List.length H1) 0 0 (Cap.ex 0)) (H1 ++ [Blk.cells [] false])) (J_spec_Others_1 D R [(0, V.sl c_b0 c_i0 c_n0 c_c0)] H1)) := (hD _ _ _ _ _ _).trans (by kernel_rfl)
theorem J_spec_Others_1_eq (hD : IsD 11 [2] D) {c_b0 c_i0 c_n0 : Nat} {c_c0 : Cap} {H0 : AH} : J_spec_Others_1 D R [(0, V.sl c_b0 c_i0 c_n0 c_c0)] H0 = (
  CallsA prog spec_Without [V.sl (List.length H0) 0 1 (Cap.ex 1), V.sl c_b0 c_i0 c_n0 c_c0] (H0 ++ [Blk.cells [V.int IntKind.i64 0, V.int IntKind.i64 255] false]) fun v0 H1 =>
  asSl v0 fun b0 i0 n0 c0 => R (V.sl b0 i0 n0 c0) H1) := (hD _ _ _ _ _ _).trans (by kernel_rfl)

/-! ### internal_strconv_bool2_int -/
noncomputable def internal_strconv_bool2_int_b : Code := (Go.Proofs.Tryd.f83.body).getD .skip
noncomputable abbrev internal_strconv_bool2_int_p (R : V → AH → Prop) : APost := postK prog (Go.Proofs.Tryd.f83.results.toList) R
def J_internal_strconv_bool2_int_1 (D : Den) (R : V → AH → Prop) (env : Env) (H : AH) : Prop := D (cAt [1, 1] internal_strconv_bool2_int_b) [] [] env H (internal_strconv_bool2_int_p R)
theorem internal_strconv_bool2_int_in {args : List V} {H : AH} {R : V → AH → Prop} (h : ∀ D, IsD 4 [2] D → D internal_strconv_bool2_int_b [] [] (argEnv 0 args) H (internal_strconv_bool2_int_p R)) (hn : args.length ≤ 4 := by exact of_decide_eq_true rfl) : CallsA prog internal_strconv_bool2_int args H R := callsD_of Go.Proofs.Tryd.func83 (by kernel_rfl) (by kernel_rfl) (by kernel_rfl) (enters_of Go.Proofs.Tryd.func83 (by kernel_rfl) rfl) hn h
theorem internal_strconv_bool2_int_eq (hD : IsD 4 [2] D) {b0 : Bool} {H0 : AH} : D internal_strconv_bool2_int_b [] [] (argEnv 0 [V.bool b0]) H0 (internal_strconv_bool2_int_p R) = (
  splitB b0 (R (V.int IntKind.i64 1) H0) (J_internal_strconv_bool2_int_1 D R [] H0)) := (hD _ _ _ _ _ _).trans (by kernel_rfl)
theorem J_internal_strconv_bool2_int_1_eq (hD : IsD 4 [2] D) {H0 : AH} : J_internal_strconv_bool2_int_1 D R [] H0 = (
  R (V.int IntKind.i64 0) H0) := (hD _ _ _ _ _ _).trans (by kernel_rfl)

/-! ### impl_Joined_1 -/
noncomputable def impl_Joined_1_b : Code := (Go.Proofs.Tryd.f48.body).getD .skip
noncomputable abbrev impl_Joined_1_p (R : V → AH → Prop) : APost := postK prog (Go.Proofs.Tryd.f48.results.toList) R
def J_impl_Joined_1_1 (D : Den) (R : V → AH → Prop) (env : Env) (H : AH) : Prop := D (cAt [1, 1] impl_Joined_1_b) [] [] env H (impl_Joined_1_p R)
theorem impl_Joined_1_in {args : List V} {H : AH} {R : V → AH → Prop} (h : ∀ D, IsD 9 [4] D → D impl_Joined_1_b [] [] (argEnv 0 args) H (impl_Joined_1_p R)) (hn : args.length ≤ 9 := by exact of_decide_eq_true rfl) : CallsA prog impl_Joined_1 args H R := callsD_of Go.Proofs.Tryd.func48 (by kernel_rfl) (by kernel_rfl) (by kernel_rfl) (enters_of Go.Proofs.Tryd.func48 (by kernel_rfl) rfl) hn h
theorem impl_Joined_1_eq (hD : IsD 9 [4] D) {inA0 inB0 : Bool} {H0 : AH} : D impl_Joined_1_b [] [] (argEnv 0 [V.bool inA0, V.bool inB0]) H0 (impl_Joined_1_p R) = (
  splitB inA0 (J_impl_Joined_1_1 D R [(4, V.bool true)] H0) (J_impl_Joined_1_1 D R [(4, V.bool inB0)] H0)) := (hD _ _ _ _ _ _).trans (by kernel_rfl)
theorem J_impl_Joined_1_1_eq (hD : IsD 9 [4] D) {x40 : Bool} {H0 : AH} : J_impl_Joined_1_1 D R [(4, V.bool x40)] H0 = (
  R (V.bool x40) H0) := (hD _ _ _ _ _ _).trans (by kernel_rfl)

/-! ### strconv_AppendInt -/
noncomputable def strconv_AppendInt_b : Code := (Go.Proofs.Tryd.f45.body).getD .skip
noncomputable abbrev strconv_AppendInt_p (R : V → AH → Prop) : APost := postK prog (Go.Proofs.Tryd.f45.results.toList) R
theorem strconv_AppendInt_in {args : List V} {H : AH} {R : V → AH → Prop} (h : ∀ D, IsD 11 [6] D → D strconv_AppendInt_b [] [] (argEnv 0 args) H (strconv_AppendInt_p R)) (hn : args.length ≤ 11 := by exact of_decide_eq_true rfl) : CallsA prog strconv_AppendInt args H R := callsD_of Go.Proofs.Tryd.func45 (by kernel_rfl) (by kernel_rfl) (by kernel_rfl) (enters_of Go.Proofs.Tryd.func45 (by kernel_rfl) rfl) hn h
theorem strconv_AppendInt_eq (hD : IsD 11 [6] D) {dst_b0 dst_i0 dst_n0 : Nat} {dst_c0 : Cap} {i0 base0 : Int} {H0 : AH} : D strconv_AppendInt_b [] [] (argEnv 0 [V.sl dst_b0 dst_i0 dst_n0 dst_c0, V.int IntKind.i64 i0, V.int IntKind.i64 base0]) H0 (strconv_AppendInt_p R) = (
  CallsA prog internal_strconv_AppendInt [V.sl dst_b0 dst_i0 dst_n0 dst_c0, V.int IntKind.i64 i0, V.int IntKind.i64 base0] H0 fun v0 H1 => asSl v0 fun b0 i1 n0 c0 => R (V.sl b0 i1 n0 c0) H1) := (hD _ _ _ _ _ _).trans (by kernel_rfl)

/-! ### impl_Joined -/
noncomputable def impl_Joined_b : Code := (Go.Proofs.Tryd.f27.body).getD .skip
noncomputable abbrev impl_Joined_p (R : V → AH → Prop) : APost := postK prog (Go.Proofs.Tryd.f27.results.toList) R
theorem impl_Joined_in {args : List V} {H : AH} {R : V → AH → Prop} (h : ∀ D, IsD 8 [4] D → D impl_Joined_b [] [] (argEnv 0 args) H (impl_Joined_p R)) (hn : args.length ≤ 8 := by exact of_decide_eq_true rfl) : CallsA prog impl_Joined args H R := callsD_of Go.Proofs.Tryd.func27 (by kernel_rfl) (by kernel_rfl) (by kernel_rfl) (enters_of Go.Proofs.Tryd.func27 (by kernel_rfl) rfl) hn h
theorem impl_Joined_eq (hD : IsD 8 [4] D) {a_b0 a_i0 a_n0 : Nat} {a_c0 : Cap} {b_b0 b_i0 b_n0 : Nat} {b_c0 : Cap} {H0 : AH} : D impl_Joined_b [] [] (argEnv 0 [V.sl a_b0 a_i0 a_n0 a_c0, V.sl b_b0 b_i0 b_n0 b_c0]) H0 (impl_Joined_p R) = (
  CallsA prog impl_combined [V.sl a_b0 a_i0 a_n0 a_c0, V.sl b_b0 b_i0 b_n0 b_c0, V.fn impl_Joined_1 [] []] H0 fun v0 H1 => asSl v0 fun b0 i0 n0 c0 => R (V.sl b0 i0 n0 c0) H1) := (hD _ _ _ _ _ _).trans (by kernel_rfl)

/-! ### spec_l1Open -/
noncomputable def spec_l1Open_b : Code := (Go.Proofs.Tryd.f14.body).getD .skip
noncomputable abbrev spec_l1Open_p (R : V → AH → Prop) : APost := postK prog (Go.Proofs.Tryd.f14.results.toList) R
theorem spec_l1Open_in {args : List V} {H : AH} {R : V → AH → Prop} (h : ∀ D, IsD 6 [2] D → D spec_l1Open_b [] [] (argEnv 0 args) H (spec_l1Open_p R)) (hn : args.length ≤ 6 := by exact of_decide_eq_true rfl) : CallsA prog spec_l1Open args H R := callsD_of Go.Proofs.Tryd.func14 (by kernel_rfl) (by kernel_rfl) (by kernel_rfl) (enters_of Go.Proofs.Tryd.func14 (by kernel_rfl) rfl) hn h
theorem spec_l1Open_eq (hD : IsD 6 [2] D) {code_b0 code_i0 code_n0 : Nat} {code_c0 : Cap} {H0 : AH} : D spec_l1Open_b [] [] (argEnv 0 [V.sl code_b0 code_i0 code_n0 code_c0]) H0 (spec_l1Open_p R) = (
  R (V.ptr (List.length H0) 0) (H0 ++ [Blk.cells [V.sl code_b0 code_i0 code_n0 code_c0, V.int IntKind.i64 0] false])) := (hD _ _ _ _ _ _).trans (by kernel_rfl)

/-! ### laws_big -/
noncomputable def laws_big_b : Code := (Go.Proofs.Tryd.f4.body).getD .skip
noncomputable abbrev laws_big_p (R : V → AH → Prop) : APost := postK prog (Go.Proofs.Tryd.f4.results.toList) R
theorem laws_big_in {args : List V} {H : AH} {R : V → AH → Prop} (h : ∀ D, IsD 6 [2] D → D laws_big_b [] [] (argEnv 0 args) H (laws_big_p R)) (hn : args.length ≤ 6 := by exact of_decide_eq_true rfl) : CallsA prog laws_big args H R := callsD_of Go.Proofs.Tryd.func4 (by kernel_rfl) (by kernel_rfl) (by kernel_rfl) (enters_of Go.Proofs.Tryd.func4 (by kernel_rfl) rfl) hn h
theorem laws_big_eq (hD : IsD 6 [2] D) {code_b0 code_i0 code_n0 : Nat} {code_c0 : Cap} {H0 : AH} : D laws_big_b [] [] (argEnv 0 [V.sl code_b0 code_i0 code_n0 code_c0]) H0 (laws_big_p R) = (
  R (V.bool (decide ((↑code_n0 : Int) > 1048576))) H0) := (hD _ _ _ _ _ _).trans (by kernel_rfl)

end Go.Proofs.YtpjkammmoaeheaaDoor.Aw

/- What the calculus asks of the code of each function: printed by a program of this claim's own (wip/aw/Gen.lean, mkw.py), checked by the kernel. -/
set_option maxRecDepth 100000
set_option linter.unusedVariables false
namespace Go.Proofs.YtpjkammmoaeheaaDoor.Aw
open Go Go.RowKit

variable {D : Den} {R : V → AH → Prop} {K1 K2 K3 K4 : Env → AH → Prop} {H0 : AH}

/-! ### spec_l1Rd_sample -/
noncomputable def spec_l1Rd_sample_b : Code := (Go.Proofs.Tryd.f35.body).getD .skip
noncomputable abbrev spec_l1Rd_sample_p (R : V → AH → Prop) : APost := postK prog (Go.Proofs.Tryd.f35.results.toList) R
def J_spec_l1Rd_sample_1 (D : Den) (R : V → AH → Prop) (env : Env) (H : AH) : Prop := D (cAt [1, 1, 1] spec_l1Rd_sample_b) [] [] env H (spec_l1Rd_sample_p R)
def J_spec_l1Rd_sample_2 (D : Den) (R : V → AH → Prop) (env : Env) (H : AH) : Prop := D (cAt [1, 1, 1, 1, 1] spec_l1Rd_sample_b) [] [] env H (spec_l1Rd_sample_p R)
def J_spec_l1Rd_sample_3 (D : Den) (R : V → AH → Prop) (env : Env) (H : AH) : Prop := D (cAt [1, 1, 1, 1, 1, 1] spec_l1Rd_sample_b) [] [] env H (spec_l1Rd_sample_p R)
def J_spec_l1Rd_sample_4 (D : Den) (R : V → AH → Prop) (env : Env) (H : AH) : Prop := D (cAt [1, 1, 1, 1, 1, 1, 1, 1] spec_l1Rd_sample_b) [] [] env H (spec_l1Rd_sample_p R)
def L_spec_l1Rd_sample_5 (D : Den) (R : V → AH → Prop) (env : Env) (H : AH) (K1 : Env → AH → Prop) : Prop := D (cAt [1, 1, 1, 1, 1, 1, 1, 0, 1, 0, 0] spec_l1Rd_sample_b) [(1, [12, 0, 5, 9, 3])] [12, 13, 11, 0, 5, 9, 3] env H (seqQ (fun e H => K1 (keepE e [12, 13, 11, 0, 5, 9, 3]) H) (blockQ 1 (seqQ (fun e H => J_spec_l1Rd_sample_4 D R (keepE e [12, 0, 5, 9, 3]) H) (spec_l1Rd_sample_p R))))
def J_spec_l1Rd_sample_6 (D : Den) (R : V → AH → Prop) (K1 : Env → AH → Prop) (env : Env) (H : AH) : Prop := D (cAt [1, 1, 1, 1, 1, 1, 1, 0, 1, 0, 0, 1] spec_l1Rd_sample_b) [(1, [12, 0, 5, 9, 3])] [12, 13, 11, 0, 5, 9, 3] env H (seqQ (fun e H => K1 (keepE e [12, 13, 11, 0, 5, 9, 3]) H) (blockQ 1 (seqQ (fun e H => J_spec_l1Rd_sample_4 D R (keepE e [12, 0, 5, 9, 3]) H) (spec_l1Rd_sample_p R))))
def J_spec_l1Rd_sample_7 (D : Den) (R : V → AH → Prop) (K1 : Env → AH → Prop) (env : Env) (H : AH) : Prop := D (cAt [1, 1, 1, 1, 1, 1, 1, 0, 1, 0, 0, 0, 1] spec_l1Rd_sample_b) [(1, [12, 0, 5, 9, 3])] [12, 13, 11, 0, 5, 9, 3] env H (seqQ (fun e H => J_spec_l1Rd_sample_6 D R K1 (keepE e [12, 13, 11, 0, 5, 9, 3]) H) (seqQ (fun e H => K1 (keepE e [12, 13, 11, 0, 5, 9, 3]) H) (blockQ 1 (seqQ (fun e H => J_spec_l1Rd_sample_4 D R (keepE e [12, 0, 5, 9, 3]) H) (spec_l1Rd_sample_p R)))))
def J_spec_l1Rd_sample_8 (D : Den) (R : V → AH → Prop) (K1 : Env → AH → Prop) (env : Env) (H : AH) : Prop := D (cAt [1, 1, 1, 1, 1, 1, 1, 0, 1, 0, 0, 1, 1] spec_l1Rd_sample_b) [(1, [12, 0, 5, 9, 3])] [12, 13, 11, 0, 5, 9, 3] env H (seqQ (fun e H => K1 (keepE e [12, 13, 11, 0, 5, 9, 3]) H) (blockQ 1 (seqQ (fun e H => J_spec_l1Rd_sample_4 D R (keepE e [12, 0, 5, 9, 3]) H) (spec_l1Rd_sample_p R))))
def J_spec_l1Rd_sample_9 (D : Den) (R : V → AH → Prop) (env : Env) (H : AH) : Prop := D (cAt [1, 1, 1, 1, 1, 1, 1, 1, 1] spec_l1Rd_sample_b) [] [] env H (spec_l1Rd_sample_p R)
def J_spec_l1Rd_sample_10 (D : Den) (R : V → AH → Prop) (env : Env) (H : AH) : Prop := D (cAt [1, 1, 1, 1, 1, 1, 1, 1, 0, 1] spec_l1Rd_sample_b) [] [12, 0, 5, 9, 3] env H (seqQ (fun e H => J_spec_l1Rd_sample_9 D R (keepE e [12, 0, 5, 9, 3]) H) (spec_l1Rd_sample_p R))
def J_spec_l1Rd_sample_11 (D : Den) (R : V → AH → Prop) (env : Env) (H : AH) : Prop := D (cAt [1, 1, 1, 1, 1, 1, 1, 1, 0, 1, 0, 1] spec_l1Rd_sample_b) [] [12, 0, 5, 9, 3] env H (seqQ (fun e H => J_spec_l1Rd_sample_9 D R (keepE e [12, 0, 5, 9, 3]) H) (spec_l1Rd_sample_p R))
def J_spec_l1Rd_sample_12 (D : Den) (R : V → AH → Prop) (env : Env) (H : AH) : Prop := D (cAt [1, 1, 1, 1, 1, 1, 1, 1, 0, 1, 0, 0, 1] spec_l1Rd_sample_b) [] [12] env H (seqQ (fun e H => J_spec_l1Rd_sample_11 D R (keepE e [12]) H) (seqQ (fun e H => J_spec_l1Rd_sample_9 D R (keepE e [12, 0, 5, 9, 3]) H) (spec_l1Rd_sample_p R)))
def J_spec_l1Rd_sample_13 (D : Den) (R : V → AH → Prop) (env : Env) (H : AH) : Prop := D (cAt [1, 1, 1, 1, 1, 1, 1, 1, 1, 1] spec_l1Rd_sample_b) [] [] env H (spec_l1Rd_sample_p R)
def J_spec_l1Rd_sample_14 (D : Den) (R : V → AH → Prop) (env : Env) (H : AH) : Prop := D (cAt [1, 1, 1, 1, 1, 1, 1, 1, 1, 0, 1] spec_l1Rd_sample_b) [] [12] env H (seqQ (fun e H => J_spec_l1Rd_sample_13 D R (keepE e [12]) H) (spec_l1Rd_sample_p R))
theorem spec_l1Rd_sample_in {args : List V} {H : AH} {R : V → AH → Prop} (h : ∀ D, IsD 169 [8] D → D spec_l1Rd_sample_b [] [] (argEnv 0 args) H (spec_l1Rd_sample_p R)) (hn : args.length ≤ 169 := by exact of_decide_eq_true rfl) : CallsA prog spec_l1Rd_sample args H R := callsD_of Go.Proofs.Tryd.func35 (by kernel_rfl) (by kernel_rfl) (by kernel_rfl) (enters_of Go.Proofs.Tryd.func35 (by kernel_rfl) rfl) hn h
theorem spec_l1Rd_sample_eq (hD : IsD 169 [8] D) {r_b0 r_i0 x_b0 x_i0 x_n0 : Nat} {x_c0 : Cap} {at0 deep0 : Int} {H0 : AH} : D spec_l1Rd_sample_b [] [] (argEnv 0 [V.ptr r_b0 r_i0, V.agg [V.sl x_b0 x_i0 x_n0 x_c0], V.int IntKind.i64 at0, V.int IntKind.i64 deep0]) H0 (spec_l1Rd_sample_p R) = (
  ld (H0 ++ [Blk.cells [V.sl x_b0 x_i0 x_n0 x_c0] false]) (List.length H0) 0 fun v0 =>
  asSl v0 fun b0 i0 n0 c0 =>
    inB at0 n0 ∧
      ld (H0 ++ [Blk.cells [V.sl x_b0 x_i0 x_n0 x_c0] false]) b0 (i0 + at0.toNat * 5 + 0) fun v1 =>
        asInt IntKind.i64 v1 fun n1 =>
          ld (H0 ++ [Blk.cells [V.sl x_b0 x_i0 x_n0 x_c0] false]) b0 (i0 + at0.toNat * 5 + 1) fun v2 =>
            asSl v2 fun b1 i1 n2 c1 =>
              ld (H0 ++ [Blk.cells [V.sl x_b0 x_i0 x_n0 x_c0] false]) b0 (i0 + at0.toNat * 5 + 2) fun v3 =>
                asSl v3 fun b2 i2 n3 c2 =>
                  ld (H0 ++ [Blk.cells [V.sl x_b0 x_i0 x_n0 x_c0] false]) b0 (i0 + at0.toNat * 5 + 3) fun v4 =>
                    asInt IntKind.i64 v4 fun n4 =>
                      ld (H0 ++ [Blk.cells [V.sl x_b0 x_i0 x_n0 x_c0] false]) b0 (i0 + at0.toNat * 5 + 4) fun v5 =>
                        asInt IntKind.i64 v5 fun n5 =>
                          stK
                            (H0 ++ [Blk.cells [V.sl x_b0 x_i0 x_n0 x_c0] false] ++
                              [Blk.cells [V.int IntKind.i64 0, V.sl 0 0 0 Cap.nil, V.sl 0 0 0 Cap.nil, V.int IntKind.i64 0, V.int IntKind.i64 0] false])
                            (List.length (H0 ++ [Blk.cells [V.sl x_b0 x_i0 x_n0 x_c0] false])) 0 [V.int IntKind.i64 n1, V.sl b1 i1 n2 c1, V.sl b2 i2 n3 c2, V.int IntKind.i64 n4, V.int IntKind.i64 n5]
                            fun H1 =>
                            ld H1 (List.length (H0 ++ [Blk.cells [V.sl x_b0 x_i0 x_n0 x_c0] false])) 0 fun v6 =>
                              asInt IntKind.i64 v6 fun n6 =>
                                splitB (n6 == 2)
                                  (ld H1 (List.length (H0 ++ [Blk.cells [V.sl x_b0 x_i0 x_n0 x_c0] false])) 1 fun v7 =>
                                    asSl v7 fun b3 i3 n7 c3 =>
                                      ld H1 (List.length (H0 ++ [Blk.cells [V.sl x_b0 x_i0 x_n0 x_c0] false])) 1 fun v8 =>
                                        asSl v8 fun b4 i4 n8 c4 =>
                                          CallsA prog spec_l1Rd_below [V.ptr r_b0 r_i0, V.int IntKind.i64 (↑n8 : Int)] (H1 ++ [Blk.cells [V.int IntKind.i64 0, V.int IntKind.i64 0] false]) fun v9 H2 =>
                                            asInt IntKind.i64 v9 fun n9 =>
                                              H2[List.length H1]? = some (Blk.cells [V.int IntKind.i64 0, V.int IntKind.i64 0] false) ∧
                                                H2.cell (List.length (H0 ++ [Blk.cells [V.sl x_b0 x_i0 x_n0 x_c0] false])) 1 = some (V.sl b3 i3 n7 c3) ∧
                                                  inB n9 n7 ∧
                                                    ld H2 b3 (i3 + n9.toNat * 2 + 0) fun v10 =>
                                                      asInt IntKind.i64 v10 fun n10 =>
                                                        ld H2 b3 (i3 + n9.toNat * 2 + 1) fun v11 =>
                                                          asInt IntKind.i64 v11 fun n11 =>
                                                            stK H2 (List.length H1) 0 [V.int IntKind.i64 n10, V.int IntKind.i64 n11] fun H3 =>
                                                              ld H3 (List.length H1) 0 fun v12 =>
                                                                asInt IntKind.i64 v12 fun n12 =>
                                                                  ld H3 (List.length H1) 1 fun v13 =>
                                                                    asInt IntKind.i64 v13 fun n13 =>
                                                                      ld H3 (List.length H1) 0 fun v14 =>
                                                                        asInt IntKind.i64 v14 fun n14 =>
                                                                          CallsA prog spec_l1Rd_below [V.ptr r_b0 r_i0, V.int IntKind.i64 (IntKind.i64.wrap (IntKind.i64.wrap (n13 - n14) + 1))] H3 fun v15 H4 =>
                                                                            asInt IntKind.i64 v15 fun n15 =>
                                                                              H4.cell (List.length H1) 0 = some (V.int IntKind.i64 n12) ∧
                                                                                strK (H4 ++ [Blk.cells [V.int IntKind.u8 (IntKind.u8.wrap (IntKind.i64.wrap (n12 + n15)))] false]) (List.length H4) 0 1
                                                                                  fun s0 => R (V.str s0) (H4 ++ [Blk.cells [V.int IntKind.u8 (IntKind.u8.wrap (IntKind.i64.wrap (n12 + n15)))] false]))
                                  (splitB (n6 == 3)
                                    (ld H1 (List.length H0) 0 fun v16 =>
                                      asSl v16 fun b5 i5 n16 c5 =>
                                        ld H1 (List.length (H0 ++ [Blk.cells [V.sl x_b0 x_i0 x_n0 x_c0] false])) 2 fun v17 =>
                                          asSl v17 fun b6 i6 n17 c6 =>
                                            inB 0 n17 ∧
                                              ld H1 b6 i6 fun v18 =>
                                                asInt IntKind.i64 v18 fun n18 =>
                                                  ld H1 (List.length H0) 0 fun v19 =>
                                                    asSl v19 fun b7 i7 n19 c7 =>
                                                      ld H1 (List.length (H0 ++ [Blk.cells [V.sl x_b0 x_i0 x_n0 x_c0] false])) 2 fun v20 =>
                                                        asSl v20 fun b8 i8 n20 c8 =>
                                                          inB 1 n20 ∧
                                                            ld H1 b8 (i8 + 1) fun v21 =>
                                                              asInt IntKind.i64 v21 fun n21 =>
                                                                CallsA prog spec_l1Rd_sample [V.ptr r_b0 r_i0, V.agg [V.sl b5 i5 n16 c5], V.int IntKind.i64 n18, V.int IntKind.i64 (IntKind.i64.wrap (deep0 + 1))] H1
                                                                  fun v22 H5 =>
                                                                  asStr v22 fun s1 =>
                                                                    H5.cell b8 (i8 + 1) = some (V.int IntKind.i64 n21) ∧
                                                                      H5.cell (List.length (H0 ++ [Blk.cells [V.sl x_b0 x_i0 x_n0 x_c0] false])) 2 = some (V.sl b8 i8 n20 c8) ∧
                                                                        (H5.cell (List.length H0) 0 = some (V.sl b7 i7 n19 c7) ∧ True) ∧
                                                                          CallsA prog 35
                                                                            [V.ptr r_b0 r_i0, V.agg [V.sl b7 i7 n19 c7], V.int IntKind.i64 n21, V.int IntKind.i64 (IntKind.i64.wrap (deep0 + 1))] H5
                                                                            fun v23 H6 => asStr v23 fun s2 => catOk s1.length s2.length ∧ R (V.str (s1 ++ s2)) H6)
                                    (splitB (n6 == 4)
                                      (ld H1 (List.length H0) 0 fun v24 =>
                                        asSl v24 fun b9 i9 n22 c9 =>
                                          ld H1 (List.length (H0 ++ [Blk.cells [V.sl x_b0 x_i0 x_n0 x_c0] false])) 2 fun v25 =>
                                            asSl v25 fun b10 i10 n23 c10 =>
                                              CallsA prog spec_l1Rd_below [V.ptr r_b0 r_i0, V.int IntKind.i64 2] H1 fun v26 H7 =>
                                                asInt IntKind.i64 v26 fun n24 =>
                                                  H7.cell (List.length (H0 ++ [Blk.cells [V.sl x_b0 x_i0 x_n0 x_c0] false])) 2 = some (V.sl b10 i10 n23 c10) ∧
                                                    (H7.cell (List.length H0) 0 = some (V.sl b9 i9 n22 c9) ∧ True) ∧
                                                      inB n24 n23 ∧
                                                        ld H7 b10 (i10 + n24.toNat * 1) fun v27 =>
                                                          asInt IntKind.i64 v27 fun n25 =>
                                                            CallsA prog spec_l1Rd_sample [V.ptr r_b0 r_i0, V.agg [V.sl b9 i9 n22 c9], V.int IntKind.i64 n25, V.int IntKind.i64 (IntKind.i64.wrap (deep0 + 1))] H7
                                                              fun v28 H8 => asStr v28 fun s3 => R (V.str s3) H8)
                                      (splitB (n6 == 1) (R (V.str []) H1)
                                        (J_spec_l1Rd_sample_1 D R
                                          [(0, V.ptr r_b0 r_i0), (5, V.ptr (List.length H0) 0), (9, V.ptr (List.length (H0 ++ [Blk.cells [V.sl x_b0 x_i0 x_n0 x_c0] false])) 0),
                                            (3, V.int IntKind.i64 deep0)]
                                          H1))))) := (hD _ _ _ _ _ _).trans (by kernel_rfl)
theorem J_spec_l1Rd_sample_1_eq (hD : IsD 169 [8] D) {r_b0 r_i0 x_b0 x_i0 n_b0 n_i0 : Nat} {deep0 : Int} {H0 : AH} : J_spec_l1Rd_sample_1 D R [(0, V.ptr r_b0 r_i0), (5, V.ptr x_b0 x_i0), (9, V.ptr n_b0 n_i0), (3, V.int IntKind.i64 deep0)] H0 = (
  ld H0 n_b0 n_i0 fun v0 =>
  asInt IntKind.i64 v0 fun n0 =>
    splitB (n0 == 6) (J_spec_l1Rd_sample_2 D R [(11, V.int IntKind.i64 1), (0, V.ptr r_b0 r_i0), (5, V.ptr x_b0 x_i0), (9, V.ptr n_b0 n_i0), (3, V.int IntKind.i64 deep0)] H0)
      (J_spec_l1Rd_sample_2 D R [(11, V.int IntKind.i64 0), (0, V.ptr r_b0 r_i0), (5, V.ptr x_b0 x_i0), (9, V.ptr n_b0 n_i0), (3, V.int IntKind.i64 deep0)] H0)) := (hD _ _ _ _ _ _).trans (by kernel_rfl)
theorem J_spec_l1Rd_sample_2_eq (hD : IsD 169 [8] D) {least0 : Int} {r_b0 r_i0 x_b0 x_i0 n_b0 n_i0 : Nat} {deep0 : Int} {H0 : AH} : J_spec_l1Rd_sample_2 D R [(11, V.int IntKind.i64 least0), (0, V.ptr r_b0 r_i0), (5, V.ptr x_b0 x_i0), (9, V.ptr n_b0 n_i0), (3, V.int IntKind.i64 deep0)] H0 = (
  ld H0 n_b0 n_i0 fun v0 =>
  asInt IntKind.i64 v0 fun n0 =>
    splitB (n0 == 8)
      (ld H0 n_b0 (n_i0 + 3) fun v1 =>
        asInt IntKind.i64 v1 fun n1 =>
          J_spec_l1Rd_sample_3 D R [(11, V.int IntKind.i64 n1), (0, V.ptr r_b0 r_i0), (5, V.ptr x_b0 x_i0), (9, V.ptr n_b0 n_i0), (3, V.int IntKind.i64 deep0)] H0)
      (J_spec_l1Rd_sample_3 D R [(11, V.int IntKind.i64 least0), (0, V.ptr r_b0 r_i0), (5, V.ptr x_b0 x_i0), (9, V.ptr n_b0 n_i0), (3, V.int IntKind.i64 deep0)] H0)) := (hD _ _ _ _ _ _).trans (by kernel_rfl)
theorem J_spec_l1Rd_sample_3_eq (hD : IsD 169 [8] D) {least0 : Int} {r_b0 r_i0 x_b0 x_i0 n_b0 n_i0 : Nat} {deep0 : Int} {H0 : AH} : J_spec_l1Rd_sample_3 D R [(11, V.int IntKind.i64 least0), (0, V.ptr r_b0 r_i0), (5, V.ptr x_b0 x_i0), (9, V.ptr n_b0 n_i0), (3, V.int IntKind.i64 deep0)] H0 = (
  LoopI (L_spec_l1Rd_sample_5 D R)
  [(12, V.str []), (13, V.int IntKind.i64 0), (11, V.int IntKind.i64 least0), (0, V.ptr r_b0 r_i0), (5, V.ptr x_b0 x_i0), (9, V.ptr n_b0 n_i0), (3, V.int IntKind.i64 deep0)] H0) := (hD _ _ _ _ _ _).trans (by kernel_rfl)
theorem L_spec_l1Rd_sample_5_eq (hD : IsD 169 [8] D) {s0 : List UInt8} {k0 least0 : Int} {r_b0 r_i0 x_b0 x_i0 n_b0 n_i0 : Nat} {deep0 : Int} {H0 : AH} : L_spec_l1Rd_sample_5 D R [(12, V.str s0), (13, V.int IntKind.i64 k0), (11, V.int IntKind.i64 least0), (0, V.ptr r_b0 r_i0), (5, V.ptr x_b0 x_i0), (9, V.ptr n_b0 n_i0), (3, V.int IntKind.i64 deep0)] H0 K1 = (
  splitB (decide (k0 < least0))
  (J_spec_l1Rd_sample_7 D R K1
    [(97, V.bool (decide ((↑s0.length : Int) < 200))), (12, V.str s0), (13, V.int IntKind.i64 k0), (11, V.int IntKind.i64 least0), (0, V.ptr r_b0 r_i0), (5, V.ptr x_b0 x_i0), (9, V.ptr n_b0 n_i0),
      (3, V.int IntKind.i64 deep0)]
    H0)
  (J_spec_l1Rd_sample_7 D R K1
    [(97, V.bool false), (12, V.str s0), (13, V.int IntKind.i64 k0), (11, V.int IntKind.i64 least0), (0, V.ptr r_b0 r_i0), (5, V.ptr x_b0 x_i0), (9, V.ptr n_b0 n_i0), (3, V.int IntKind.i64 deep0)] H0)) := (hD _ _ _ _ _ _).trans (by kernel_rfl)
theorem J_spec_l1Rd_sample_7_eq (hD : IsD 169 [8] D) {x970 : Bool} {s0 : List UInt8} {k0 least0 : Int} {r_b0 r_i0 x_b0 x_i0 n_b0 n_i0 : Nat} {deep0 : Int} {H0 : AH} : J_spec_l1Rd_sample_7 D R K1 [(97, V.bool x970), (12, V.str s0), (13, V.int IntKind.i64 k0), (11, V.int IntKind.i64 least0), (0, V.ptr r_b0 r_i0), (5, V.ptr x_b0 x_i0), (9, V.ptr n_b0 n_i0), (3, V.int IntKind.i64 deep0)] H0 = (
  splitB x970
  (J_spec_l1Rd_sample_6 D R K1
    [(12, V.str s0), (13, V.int IntKind.i64 k0), (11, V.int IntKind.i64 least0), (0, V.ptr r_b0 r_i0), (5, V.ptr x_b0 x_i0), (9, V.ptr n_b0 n_i0), (3, V.int IntKind.i64 deep0)] H0)
  (J_spec_l1Rd_sample_4 D R [(12, V.str s0), (0, V.ptr r_b0 r_i0), (5, V.ptr x_b0 x_i0), (9, V.ptr n_b0 n_i0), (3, V.int IntKind.i64 deep0)] H0)) := (hD _ _ _ _ _ _).trans (by kernel_rfl)
theorem J_spec_l1Rd_sample_6_eq (hD : IsD 169 [8] D) {s0 : List UInt8} {k0 least0 : Int} {r_b0 r_i0 x_b0 x_i0 n_b0 n_i0 : Nat} {deep0 : Int} {H0 : AH} : J_spec_l1Rd_sample_6 D R K1 [(12, V.str s0), (13, V.int IntKind.i64 k0), (11, V.int IntKind.i64 least0), (0, V.ptr r_b0 r_i0), (5, V.ptr x_b0 x_i0), (9, V.ptr n_b0 n_i0), (3, V.int IntKind.i64 deep0)] H0 = (
  ld H0 x_b0 (x_i0 + 0) fun v0 =>
  asSl v0 fun b0 i0 n0 c0 =>
    ld H0 n_b0 (n_i0 + 2) fun v1 =>
      asSl v1 fun b1 i1 n1 c1 =>
        inB 0 n1 ∧
          ld H0 b1 i1 fun v2 =>
            asInt IntKind.i64 v2 fun n2 =>
              CallsA prog spec_l1Rd_sample [V.ptr r_b0 r_i0, V.agg [V.sl b0 i0 n0 c0], V.int IntKind.i64 n2, V.int IntKind.i64 (IntKind.i64.wrap (deep0 + 1))] H0 fun v3 H1 =>
                asStr v3 fun s1 =>
                  catOk s0.length s1.length ∧
                    J_spec_l1Rd_sample_8 D R K1
                      [(13, V.int IntKind.i64 k0), (12, V.str (s0 ++ s1)), (11, V.int IntKind.i64 least0), (0, V.ptr r_b0 r_i0), (5, V.ptr x_b0 x_i0), (9, V.ptr n_b0 n_i0),
                        (3, V.int IntKind.i64 deep0)]
                      H1) := (hD _ _ _ _ _ _).trans (by kernel_rfl)
theorem J_spec_l1Rd_sample_4_eq (hD : IsD 169 [8] D) {s0 : List UInt8} {r_b0 r_i0 x_b0 x_i0 n_b0 n_i0 : Nat} {deep0 : Int} {H0 : AH} : J_spec_l1Rd_sample_4 D R [(12, V.str s0), (0, V.ptr r_b0 r_i0), (5, V.ptr x_b0 x_i0), (9, V.ptr n_b0 n_i0), (3, V.int IntKind.i64 deep0)] H0 = (
  ld H0 n_b0 n_i0 fun v0 =>
  asInt IntKind.i64 v0 fun n0 =>
    splitB (n0 == 7)
      (J_spec_l1Rd_sample_10 D R [(125, V.bool true), (12, V.str s0), (0, V.ptr r_b0 r_i0), (5, V.ptr x_b0 x_i0), (9, V.ptr n_b0 n_i0), (3, V.int IntKind.i64 deep0)] H0)
      (ld H0 n_b0 n_i0 fun v1 =>
        asInt IntKind.i64 v1 fun n1 =>
          splitB (n1 == 8)
            (ld H0 n_b0 (n_i0 + 4) fun v2 =>
              asInt IntKind.i64 v2 fun n2 =>
                ld H0 n_b0 (n_i0 + 3) fun v3 =>
                  asInt IntKind.i64 v3 fun n3 =>
                    J_spec_l1Rd_sample_10 D R
                      [(125, V.bool (n2 == n3)), (12, V.str s0), (0, V.ptr r_b0 r_i0), (5, V.ptr x_b0 x_i0), (9, V.ptr n_b0 n_i0), (3, V.int IntKind.i64 deep0)] H0)
            (J_spec_l1Rd_sample_10 D R [(125, V.bool false), (12, V.str s0), (0, V.ptr r_b0 r_i0), (5, V.ptr x_b0 x_i0), (9, V.ptr n_b0 n_i0), (3, V.int IntKind.i64 deep0)] H0))) := (hD _ _ _ _ _ _).trans (by kernel_rfl)
theorem J_spec_l1Rd_sample_8_eq (hD : IsD 169 [8] D) {k0 : Int} {s0 : List UInt8} {least0 : Int} {r_b0 r_i0 x_b0 x_i0 n_b0 n_i0 : Nat} {deep0 : Int} {H0 : AH} : J_spec_l1Rd_sample_8 D R K1 [(13, V.int IntKind.i64 k0), (12, V.str s0), (11, V.int IntKind.i64 least0), (0, V.ptr r_b0 r_i0), (5, V.ptr x_b0 x_i0), (9, V.ptr n_b0 n_i0), (3, V.int IntKind.i64 deep0)] H0 = (
  K1 [(12, V.str s0), (13, V.int IntKind.i64 (IntKind.i64.wrap (k0 + 1))), (11, V.int IntKind.i64 least0), (0, V.ptr r_b0 r_i0), (5, V.ptr x_b0 x_i0), (9, V.ptr n_b0 n_i0), (3, V.int IntKind.i64 deep0)]
  H0) := (hD _ _ _ _ _ _).trans (by kernel_rfl)
theorem J_spec_l1Rd_sample_10_eq (hD : IsD 169 [8] D) {x1250 : Bool} {s0 : List UInt8} {r_b0 r_i0 x_b0 x_i0 n_b0 n_i0 : Nat} {deep0 : Int} {H0 : AH} : J_spec_l1Rd_sample_10 D R [(125, V.bool x1250), (12, V.str s0), (0, V.ptr r_b0 r_i0), (5, V.ptr x_b0 x_i0), (9, V.ptr n_b0 n_i0), (3, V.int IntKind.i64 deep0)] H0 = (
  splitB x1250
  (ld H0 n_b0 n_i0 fun v0 =>
    asInt IntKind.i64 v0 fun n0 =>
      splitB (n0 == 7)
        (CallsA prog spec_l1Rd_once [V.ptr r_b0 r_i0, V.int IntKind.i64 2] H0 fun v1 H1 =>
          asBool v1 fun t0 =>
            J_spec_l1Rd_sample_12 D R [(132, V.bool t0), (12, V.str s0), (0, V.ptr r_b0 r_i0), (5, V.ptr x_b0 x_i0), (9, V.ptr n_b0 n_i0), (3, V.int IntKind.i64 deep0)] H1)
        (J_spec_l1Rd_sample_12 D R [(132, V.bool false), (12, V.str s0), (0, V.ptr r_b0 r_i0), (5, V.ptr x_b0 x_i0), (9, V.ptr n_b0 n_i0), (3, V.int IntKind.i64 deep0)] H0))
  (J_spec_l1Rd_sample_9 D R [(12, V.str s0), (0, V.ptr r_b0 r_i0), (5, V.ptr x_b0 x_i0), (9, V.ptr n_b0 n_i0), (3, V.int IntKind.i64 deep0)] H0)) := (hD _ _ _ _ _ _).trans (by kernel_rfl)
theorem J_spec_l1Rd_sample_12_eq (hD : IsD 169 [8] D) {x1320 : Bool} {s0 : List UInt8} {r_b0 r_i0 x_b0 x_i0 n_b0 n_i0 : Nat} {deep0 : Int} {H0 : AH} : J_spec_l1Rd_sample_12 D R [(132, V.bool x1320), (12, V.str s0), (0, V.ptr r_b0 r_i0), (5, V.ptr x_b0 x_i0), (9, V.ptr n_b0 n_i0), (3, V.int IntKind.i64 deep0)] H0 = (
  splitB x1320
  (ld H0 x_b0 (x_i0 + 0) fun v0 =>
    asSl v0 fun b0 i0 n0 c0 =>
      ld H0 n_b0 (n_i0 + 2) fun v1 =>
        asSl v1 fun b1 i1 n1 c1 =>
          inB 0 n1 ∧
            ld H0 b1 i1 fun v2 =>
              asInt IntKind.i64 v2 fun n2 =>
                CallsA prog spec_l1Rd_sample [V.ptr r_b0 r_i0, V.agg [V.sl b0 i0 n0 c0], V.int IntKind.i64 n2, V.int IntKind.i64 (IntKind.i64.wrap (deep0 + 1))] H0 fun v3 H1 =>
                  asStr v3 fun s1 => catOk s0.length s1.length ∧ J_spec_l1Rd_sample_11 D R [(12, V.str (s0 ++ s1))] H1)
  (J_spec_l1Rd_sample_11 D R [(12, V.str s0)] H0)) := (hD _ _ _ _ _ _).trans (by kernel_rfl)
theorem J_spec_l1Rd_sample_9_eq (hD : IsD 169 [8] D) {s0 : List UInt8} {r_b0 r_i0 x_b0 x_i0 n_b0 n_i0 : Nat} {deep0 : Int} {H0 : AH} : J_spec_l1Rd_sample_9 D R [(12, V.str s0), (0, V.ptr r_b0 r_i0), (5, V.ptr x_b0 x_i0), (9, V.ptr n_b0 n_i0), (3, V.int IntKind.i64 deep0)] H0 = (
  ld H0 n_b0 n_i0 fun v0 =>
  asInt IntKind.i64 v0 fun n0 =>
    splitB (n0 != 8)
      (CallsA prog spec_l1Rd_once [V.ptr r_b0 r_i0, V.int IntKind.i64 2] H0 fun v1 H1 =>
        asBool v1 fun t0 =>
          splitB t0
            (J_spec_l1Rd_sample_14 D R
              [(156, V.bool (decide ((↑s0.length : Int) < 200))), (12, V.str s0), (0, V.ptr r_b0 r_i0), (5, V.ptr x_b0 x_i0), (9, V.ptr n_b0 n_i0), (3, V.int IntKind.i64 deep0)] H1)
            (J_spec_l1Rd_sample_14 D R [(156, V.bool false), (12, V.str s0), (0, V.ptr r_b0 r_i0), (5, V.ptr x_b0 x_i0), (9, V.ptr n_b0 n_i0), (3, V.int IntKind.i64 deep0)] H1))
      (J_spec_l1Rd_sample_14 D R [(156, V.bool false), (12, V.str s0), (0, V.ptr r_b0 r_i0), (5, V.ptr x_b0 x_i0), (9, V.ptr n_b0 n_i0), (3, V.int IntKind.i64 deep0)] H0)) := (hD _ _ _ _ _ _).trans (by kernel_rfl)
theorem J_spec_l1Rd_sample_11_eq (hD : IsD 169 [8] D) {s0 : List UInt8} {H0 : AH} : J_spec_l1Rd_sample_11 D R [(12, V.str s0)] H0 = (
  R (V.str s0) H0) := (hD _ _ _ _ _ _).trans (by kernel_rfl)
theorem J_spec_l1Rd_sample_14_eq (hD : IsD 169 [8] D) {x1560 : Bool} {s0 : List UInt8} {r_b0 r_i0 x_b0 x_i0 n_b0 n_i0 : Nat} {deep0 : Int} {H0 : AH} : J_spec_l1Rd_sample_14 D R [(156, V.bool x1560), (12, V.str s0), (0, V.ptr r_b0 r_i0), (5, V.ptr x_b0 x_i0), (9, V.ptr n_b0 n_i0), (3, V.int IntKind.i64 deep0)] H0 = (
  splitB x1560
  (ld H0 x_b0 (x_i0 + 0) fun v0 =>
    asSl v0 fun b0 i0 n0 c0 =>
      ld H0 n_b0 (n_i0 + 2) fun v1 =>
        asSl v1 fun b1 i1 n1 c1 =>
          inB 0 n1 ∧
            ld H0 b1 i1 fun v2 =>
              asInt IntKind.i64 v2 fun n2 =>
                CallsA prog spec_l1Rd_sample [V.ptr r_b0 r_i0, V.agg [V.sl b0 i0 n0 c0], V.int IntKind.i64 n2, V.int IntKind.i64 (IntKind.i64.wrap (deep0 + 1))] H0 fun v3 H1 =>
                  asStr v3 fun s1 => catOk s0.length s1.length ∧ J_spec_l1Rd_sample_13 D R [(12, V.str (s0 ++ s1))] H1)
  (J_spec_l1Rd_sample_13 D R [(12, V.str s0)] H0)) := (hD _ _ _ _ _ _).trans (by kernel_rfl)
theorem J_spec_l1Rd_sample_13_eq (hD : IsD 169 [8] D) {s0 : List UInt8} {H0 : AH} : J_spec_l1Rd_sample_13 D R [(12, V.str s0)] H0 = (
  R (V.str s0) H0) := (hD _ _ _ _ _ _).trans (by kernel_rfl)

/-! ### spec_RxOk -/
noncomputable def spec_RxOk_b : Code := (Go.Proofs.Tryd.f19.body).getD .skip
noncomputable abbrev spec_RxOk_p (R : V → AH → Prop) : APost := postK prog (Go.Proofs.Tryd.f19.results.toList) R
def J_spec_RxOk_1 (D : Den) (R : V → AH → Prop) (env : Env) (H : AH) : Prop := D (cAt [1, 1, 1] spec_RxOk_b) [] [] env H (spec_RxOk_p R)
def J_spec_RxOk_2 (D : Den) (R : V → AH → Prop) (env : Env) (H : AH) : Prop := D (cAt [1, 1, 0, 1] spec_RxOk_b) [] [1, 3] env H (seqQ (fun e H => J_spec_RxOk_1 D R (keepE e [1, 3]) H) (spec_RxOk_p R))
def J_spec_RxOk_3 (D : Den) (R : V → AH → Prop) (env : Env) (H : AH) : Prop := D (cAt [1, 1, 1, 1, 1] spec_RxOk_b) [] [] env H (spec_RxOk_p R)
def L_spec_RxOk_4 (D : Den) (R : V → AH → Prop) (env : Env) (H : AH) (K1 : Env → AH → Prop) : Prop := D (cAt [1, 1, 1, 1, 0, 1, 0, 0] spec_RxOk_b) [(0, [1, 3, 4])] [5, 1, 4, 3] env H (seqQ (fun e H => K1 (keepE e [5, 1, 4, 3]) H) (blockQ 0 (seqQ (fun e H => J_spec_RxOk_3 D R (keepE e [1, 3, 4]) H) (spec_RxOk_p R))))
def J_spec_RxOk_5 (D : Den) (R : V → AH → Prop) (K1 : Env → AH → Prop) (env : Env) (H : AH) : Prop := D (cAt [1, 1, 1, 1, 0, 1, 0, 0, 1] spec_RxOk_b) [(0, [1, 3, 4])] [5, 1, 4, 3] env H (seqQ (fun e H => K1 (keepE e [5, 1, 4, 3]) H) (blockQ 0 (seqQ (fun e H => J_spec_RxOk_3 D R (keepE e [1, 3, 4]) H) (spec_RxOk_p R))))
def J_spec_RxOk_6 (D : Den) (R : V → AH → Prop) (K1 : Env → AH → Prop) (env : Env) (H : AH) : Prop := D (cAt [1, 1, 1, 1, 0, 1, 0, 0, 1, 1] spec_RxOk_b) [(0, [1, 3, 4])] [5, 1, 4, 3] env H (seqQ (fun e H => K1 (keepE e [5, 1, 4, 3]) H) (blockQ 0 (seqQ (fun e H => J_spec_RxOk_3 D R (keepE e [1, 3, 4]) H) (spec_RxOk_p R))))
def J_spec_RxOk_7 (D : Den) (R : V → AH → Prop) (K1 : Env → AH → Prop) (env : Env) (H : AH) : Prop := D (cAt [1, 1, 1, 1, 0, 1, 0, 0, 1, 0, 0, 1] spec_RxOk_b) [(1, [5, 1, 4, 3]), (0, [1, 3, 4])] [5, 1, 4, 3] env H (blockQ 1 (seqQ (fun e H => J_spec_RxOk_6 D R K1 (keepE e [5, 1, 4, 3]) H) (seqQ (fun e H => K1 (keepE e [5, 1, 4, 3]) H) (blockQ 0 (seqQ (fun e H => J_spec_RxOk_3 D R (keepE e [1, 3, 4]) H) (spec_RxOk_p R))))))
def J_spec_RxOk_8 (D : Den) (R : V → AH → Prop) (env : Env) (H : AH) : Prop := D (cAt [1, 1, 1, 1, 1, 1, 1] spec_RxOk_b) [] [] env H (spec_RxOk_p R)
def L_spec_RxOk_9 (D : Den) (R : V → AH → Prop) (env : Env) (H : AH) (K1 : Env → AH → Prop) : Prop := D (cAt [1, 1, 1, 1, 1, 1, 0, 1, 0, 0] spec_RxOk_b) [(4, [])] [8, 7, 1, 3, 4] env H (seqQ (fun e H => K1 (keepE e [8, 7, 1, 3, 4]) H) (blockQ 4 (seqQ (fun e H => J_spec_RxOk_8 D R (keepE e []) H) (spec_RxOk_p R))))
def L_spec_RxOk_10 (D : Den) (R : V → AH → Prop) (K1 : Env → AH → Prop) (env : Env) (H : AH) (K2 : Env → AH → Prop) : Prop := D (cAt [1, 1, 1, 1, 0, 1, 0, 0, 1, 0, 0, 1, 1, 0, 0] spec_RxOk_b) [(2, [5, 1, 4, 3]), (1, [5, 1, 4, 3]), (0, [1, 3, 4])] [6, 3, 4, 1, 5] env H (seqQ (fun e H => K2 (keepE e [6, 3, 4, 1, 5]) H) (blockQ 2 (blockQ 1 (seqQ (fun e H => J_spec_RxOk_6 D R K1 (keepE e [5, 1, 4, 3]) H) (seqQ (fun e H => K1 (keepE e [5, 1, 4, 3]) H) (blockQ 0 (seqQ (fun e H => J_spec_RxOk_3 D R (keepE e [1, 3, 4]) H) (spec_RxOk_p R))))))))
def J_spec_RxOk_11 (D : Den) (R : V → AH → Prop) (K1 : Env → AH → Prop) (env : Env) (H : AH) : Prop := D (cAt [1, 1, 1, 1, 1, 1, 0, 1, 0, 0, 1] spec_RxOk_b) [(4, [])] [8, 7, 1, 3, 4] env H (seqQ (fun e H => K1 (keepE e [8, 7, 1, 3, 4]) H) (blockQ 4 (seqQ (fun e H => J_spec_RxOk_8 D R (keepE e []) H) (spec_RxOk_p R))))
def J_spec_RxOk_12 (D : Den) (R : V → AH → Prop) (K1 : Env → AH → Prop) (K2 : Env → AH → Prop) (env : Env) (H : AH) : Prop := D (cAt [1, 1, 1, 1, 0, 1, 0, 0, 1, 0, 0, 1, 1, 0, 0, 1] spec_RxOk_b) [(2, [5, 1, 4, 3]), (1, [5, 1, 4, 3]), (0, [1, 3, 4])] [6, 3, 4, 1, 5] env H (seqQ (fun e H => K2 (keepE e [6, 3, 4, 1, 5]) H) (blockQ 2 (blockQ 1 (seqQ (fun e H => J_spec_RxOk_6 D R K1 (keepE e [5, 1, 4, 3]) H) (seqQ (fun e H => K1 (keepE e [5, 1, 4, 3]) H) (blockQ 0 (seqQ (fun e H => J_spec_RxOk_3 D R (keepE e [1, 3, 4]) H) (spec_RxOk_p R))))))))
def J_spec_RxOk_13 (D : Den) (R : V → AH → Prop) (K1 : Env → AH → Prop) (env : Env) (H : AH) : Prop := D (cAt [1, 1, 1, 1, 1, 1, 0, 1, 0, 0, 1, 1] spec_RxOk_b) [(4, [])] [8, 7, 1, 3, 4] env H (seqQ (fun e H => K1 (keepE e [8, 7, 1, 3, 4]) H) (blockQ 4 (seqQ (fun e H => J_spec_RxOk_8 D R (keepE e []) H) (spec_RxOk_p R))))
def J_spec_RxOk_14 (D : Den) (R : V → AH → Prop) (K1 : Env → AH → Prop) (env : Env) (H : AH) : Prop := D (cAt [1, 1, 1, 1, 1, 1, 0, 1, 0, 0, 1, 0, 0, 1] spec_RxOk_b) [(5, [8, 7, 1, 3, 4]), (4, [])] [8, 7, 1, 3, 4] env H (blockQ 5 (seqQ (fun e H => J_spec_RxOk_13 D R K1 (keepE e [8, 7, 1, 3, 4]) H) (seqQ (fun e H => K1 (keepE e [8, 7, 1, 3, 4]) H) (blockQ 4 (seqQ (fun e H => J_spec_RxOk_8 D R (keepE e []) H) (spec_RxOk_p R))))))
def J_spec_RxOk_15 (D : Den) (R : V → AH → Prop) (K1 : Env → AH → Prop) (env : Env) (H : AH) : Prop := D (cAt [1, 1, 1, 1, 1, 1, 0, 1, 0, 0, 1, 0, 0, 0, 1] spec_RxOk_b) [(5, [8, 7, 1, 3, 4]), (4, [])] [4, 3, 1, 7, 8] env H (seqQ (fun e H => J_spec_RxOk_14 D R K1 (keepE e [4, 3, 1, 7, 8]) H) (blockQ 5 (seqQ (fun e H => J_spec_RxOk_13 D R K1 (keepE e [8, 7, 1, 3, 4]) H) (seqQ (fun e H => K1 (keepE e [8, 7, 1, 3, 4]) H) (blockQ 4 (seqQ (fun e H => J_spec_RxOk_8 D R (keepE e []) H) (spec_RxOk_p R)))))))
def J_spec_RxOk_16 (D : Den) (R : V → AH → Prop) (K1 : Env → AH → Prop) (K2 : Env → AH → Prop) (env : Env) (H : AH) : Prop := D (cAt [1, 1, 1, 1, 0, 1, 0, 0, 1, 0, 0, 1, 1, 0, 0, 1, 1] spec_RxOk_b) [(2, [5, 1, 4, 3]), (1, [5, 1, 4, 3]), (0, [1, 3, 4])] [6, 3, 4, 1, 5] env H (seqQ (fun e H => K2 (keepE e [6, 3, 4, 1, 5]) H) (blockQ 2 (blockQ 1 (seqQ (fun e H => J_spec_RxOk_6 D R K1 (keepE e [5, 1, 4, 3]) H) (seqQ (fun e H => K1 (keepE e [5, 1, 4, 3]) H) (blockQ 0 (seqQ (fun e H => J_spec_RxOk_3 D R (keepE e [1, 3, 4]) H) (spec_RxOk_p R))))))))
def L_spec_RxOk_17 (D : Den) (R : V → AH → Prop) (K1 : Env → AH → Prop) (env : Env) (H : AH) (K2 : Env → AH → Prop) : Prop := D (cAt [1, 1, 1, 1, 1, 1, 0, 1, 0, 0, 1, 0, 0, 1, 1, 0, 0] spec_RxOk_b) [(6, [8, 7, 1, 3, 4]), (5, [8, 7, 1, 3, 4]), (4, [])] [9, 4, 3, 1, 7, 8] env H (seqQ (fun e H => K2 (keepE e [9, 4, 3, 1, 7, 8]) H) (blockQ 6 (blockQ 5 (seqQ (fun e H => J_spec_RxOk_13 D R K1 (keepE e [8, 7, 1, 3, 4]) H) (seqQ (fun e H => K1 (keepE e [8, 7, 1, 3, 4]) H) (blockQ 4 (seqQ (fun e H => J_spec_RxOk_8 D R (keepE e []) H) (spec_RxOk_p R))))))))
def J_spec_RxOk_18 (D : Den) (R : V → AH → Prop) (K1 : Env → AH → Prop) (K2 : Env → AH → Prop) (env : Env) (H : AH) : Prop := D (cAt [1, 1, 1, 1, 1, 1, 0, 1, 0, 0, 1, 0, 0, 1, 1, 0, 0, 1] spec_RxOk_b) [(6, [8, 7, 1, 3, 4]), (5, [8, 7, 1, 3, 4]), (4, [])] [9, 4, 3, 1, 7, 8] env H (seqQ (fun e H => K2 (keepE e [9, 4, 3, 1, 7, 8]) H) (blockQ 6 (blockQ 5 (seqQ (fun e H => J_spec_RxOk_13 D R K1 (keepE e [8, 7, 1, 3, 4]) H) (seqQ (fun e H => K1 (keepE e [8, 7, 1, 3, 4]) H) (blockQ 4 (seqQ (fun e H => J_spec_RxOk_8 D R (keepE e []) H) (spec_RxOk_p R))))))))
def J_spec_RxOk_19 (D : Den) (R : V → AH → Prop) (K1 : Env → AH → Prop) (K2 : Env → AH → Prop) (env : Env) (H : AH) : Prop := D (cAt [1, 1, 1, 1, 1, 1, 0, 1, 0, 0, 1, 0, 0, 1, 1, 0, 0, 1, 1] spec_RxOk_b) [(6, [8, 7, 1, 3, 4]), (5, [8, 7, 1, 3, 4]), (4, [])] [9, 4, 3, 1, 7, 8] env H (seqQ (fun e H => K2 (keepE e [9, 4, 3, 1, 7, 8]) H) (blockQ 6 (blockQ 5 (seqQ (fun e H => J_spec_RxOk_13 D R K1 (keepE e [8, 7, 1, 3, 4]) H) (seqQ (fun e H => K1 (keepE e [8, 7, 1, 3, 4]) H) (blockQ 4 (seqQ (fun e H => J_spec_RxOk_8 D R (keepE e []) H) (spec_RxOk_p R))))))))
theorem spec_RxOk_in {args : List V} {H : AH} {R : V → AH → Prop} (h : ∀ D, IsD 112 [2] D → D spec_RxOk_b [] [] (argEnv 0 args) H (spec_RxOk_p R)) (hn : args.length ≤ 112 := by exact of_decide_eq_true rfl) : CallsA prog spec_RxOk args H R := callsD_of Go.Proofs.Tryd.func19 (by kernel_rfl) (by kernel_rfl) (by kernel_rfl) (enters_of Go.Proofs.Tryd.func19 (by kernel_rfl) rfl) hn h
theorem spec_RxOk_eq (hD : IsD 112 [2] D) {x_b0 x_i0 x_n0 : Nat} {x_c0 : Cap} {H0 : AH} : D spec_RxOk_b [] [] (argEnv 0 [V.agg [V.sl x_b0 x_i0 x_n0 x_c0]]) H0 (spec_RxOk_p R) = (
  ld (H0 ++ [Blk.cells [V.sl x_b0 x_i0 x_n0 x_c0] false]) (List.length H0) 0 fun v0 =>
  asSl v0 fun b0 i0 n0 c0 =>
    splitB (decide ((↑n0 : Int) < 1))
      (J_spec_RxOk_2 D R [(18, V.bool true), (3, V.int IntKind.i64 (↑n0 : Int)), (1, V.ptr (List.length H0) 0)] (H0 ++ [Blk.cells [V.sl x_b0 x_i0 x_n0 x_c0] false]))
      (J_spec_RxOk_2 D R [(18, V.bool (decide ((↑n0 : Int) > 300))), (3, V.int IntKind.i64 (↑n0 : Int)), (1, V.ptr (List.length H0) 0)] (H0 ++ [Blk.cells [V.sl x_b0 x_i0 x_n0 x_c0] false]))) := (hD _ _ _ _ _ _).trans (by kernel_rfl)
theorem J_spec_RxOk_2_eq (hD : IsD 112 [2] D) {x180 : Bool} {n0 : Int} {x_b0 x_i0 : Nat} {H0 : AH} : J_spec_RxOk_2 D R [(18, V.bool x180), (3, V.int IntKind.i64 n0), (1, V.ptr x_b0 x_i0)] H0 = (
  splitB x180 (R (V.bool false) H0) (J_spec_RxOk_1 D R [(1, V.ptr x_b0 x_i0), (3, V.int IntKind.i64 n0)] H0)) := (hD _ _ _ _ _ _).trans (by kernel_rfl)
theorem J_spec_RxOk_1_eq (hD : IsD 112 [2] D) {x_b0 x_i0 : Nat} {n0 : Int} {H0 : AH} : J_spec_RxOk_1 D R [(1, V.ptr x_b0 x_i0), (3, V.int IntKind.i64 n0)] H0 = (
  mkOk n0 n0 8 ∧
  LoopI (L_spec_RxOk_4 D R) [(5, V.int IntKind.i64 0), (1, V.ptr x_b0 x_i0), (4, V.sl (List.length H0) 0 n0.toNat (Cap.ex n0.toNat)), (3, V.int IntKind.i64 n0)]
    (H0 ++ [Blk.cells (rep n0.toNat [V.int IntKind.i64 0]) false])) := (hD _ _ _ _ _ _).trans (by kernel_rfl)
theorem L_spec_RxOk_4_eq (hD : IsD 112 [2] D) {i0 : Int} {x_b0 x_i0 used_b0 used_i0 used_n0 : Nat} {used_c0 : Cap} {n0 : Int} {H0 : AH} : L_spec_RxOk_4 D R [(5, V.int IntKind.i64 i0), (1, V.ptr x_b0 x_i0), (4, V.sl used_b0 used_i0 used_n0 used_c0), (3, V.int IntKind.i64 n0)] H0 K1 = (
  splitB (decide (i0 < n0)) (J_spec_RxOk_5 D R K1 [(5, V.int IntKind.i64 i0), (1, V.ptr x_b0 x_i0), (4, V.sl used_b0 used_i0 used_n0 used_c0), (3, V.int IntKind.i64 n0)] H0)
  (J_spec_RxOk_3 D R [(1, V.ptr x_b0 x_i0), (3, V.int IntKind.i64 n0), (4, V.sl used_b0 used_i0 used_n0 used_c0)] H0)) := (hD _ _ _ _ _ _).trans (by kernel_rfl)
theorem J_spec_RxOk_5_eq (hD : IsD 112 [2] D) {i0 : Int} {x_b0 x_i0 used_b0 used_i0 used_n0 : Nat} {used_c0 : Cap} {n0 : Int} {H0 : AH} : J_spec_RxOk_5 D R K1 [(5, V.int IntKind.i64 i0), (1, V.ptr x_b0 x_i0), (4, V.sl used_b0 used_i0 used_n0 used_c0), (3, V.int IntKind.i64 n0)] H0 = (
  ld H0 x_b0 x_i0 fun v0 =>
  asSl v0 fun b0 i1 n1 c0 =>
    inB i0 n1 ∧
      ld H0 b0 (i1 + i0.toNat * 5 + 0) fun v1 =>
        asInt IntKind.i64 v1 fun n2 =>
          ld H0 b0 (i1 + i0.toNat * 5 + 1) fun v2 =>
            asSl v2 fun b1 i2 n3 c1 =>
              ld H0 b0 (i1 + i0.toNat * 5 + 2) fun v3 =>
                asSl v3 fun b2 i3 n4 c2 =>
                  ld H0 b0 (i1 + i0.toNat * 5 + 3) fun v4 =>
                    asInt IntKind.i64 v4 fun n5 =>
                      ld H0 b0 (i1 + i0.toNat * 5 + 4) fun v5 =>
                        asInt IntKind.i64 v5 fun n6 =>
                          CallsA prog spec_l3Node [V.agg [V.int IntKind.i64 n2, V.sl b1 i2 n3 c1, V.sl b2 i3 n4 c2, V.int IntKind.i64 n5, V.int IntKind.i64 n6], V.int IntKind.i64 i0] H0 fun v6 H1 =>
                            asBool v6 fun t0 =>
                              splitB (!t0) (R (V.bool false) H1)
                                (J_spec_RxOk_7 D R K1 [(3, V.int IntKind.i64 n0), (4, V.sl used_b0 used_i0 used_n0 used_c0), (1, V.ptr x_b0 x_i0), (5, V.int IntKind.i64 i0)] H1)) := (hD _ _ _ _ _ _).trans (by kernel_rfl)
theorem J_spec_RxOk_3_eq (hD : IsD 112 [2] D) {x_b0 x_i0 : Nat} {n0 : Int} {used_b0 used_i0 used_n0 : Nat} {used_c0 : Cap} {H0 : AH} : J_spec_RxOk_3 D R [(1, V.ptr x_b0 x_i0), (3, V.int IntKind.i64 n0), (4, V.sl used_b0 used_i0 used_n0 used_c0)] H0 = (
  mkOk n0 n0 8 ∧
  LoopI (L_spec_RxOk_9 D R)
    [(8, V.int IntKind.i64 (IntKind.i64.wrap (n0 - 1))), (7, V.sl (List.length H0) 0 n0.toNat (Cap.ex n0.toNat)), (1, V.ptr x_b0 x_i0), (3, V.int IntKind.i64 n0),
      (4, V.sl used_b0 used_i0 used_n0 used_c0)]
    (H0 ++ [Blk.cells (rep n0.toNat [V.int IntKind.i64 0]) false])) := (hD _ _ _ _ _ _).trans (by kernel_rfl)
theorem J_spec_RxOk_7_eq (hD : IsD 112 [2] D) {n0 : Int} {used_b0 used_i0 used_n0 : Nat} {used_c0 : Cap} {x_b0 x_i0 : Nat} {i0 : Int} {H0 : AH} : J_spec_RxOk_7 D R K1 [(3, V.int IntKind.i64 n0), (4, V.sl used_b0 used_i0 used_n0 used_c0), (1, V.ptr x_b0 x_i0), (5, V.int IntKind.i64 i0)] H0 = (
  LoopI (L_spec_RxOk_10 D R K1) [(6, V.int IntKind.i64 0), (3, V.int IntKind.i64 n0), (4, V.sl used_b0 used_i0 used_n0 used_c0), (1, V.ptr x_b0 x_i0), (5, V.int IntKind.i64 i0)] H0) := (hD _ _ _ _ _ _).trans (by kernel_rfl)
theorem L_spec_RxOk_9_eq (hD : IsD 112 [2] D) {i0 : Int} {deep_b0 deep_i0 deep_n0 : Nat} {deep_c0 : Cap} {x_b0 x_i0 : Nat} {n0 : Int} {used_b0 used_i0 used_n0 : Nat} {used_c0 : Cap} {H0 : AH} : L_spec_RxOk_9 D R [(8, V.int IntKind.i64 i0), (7, V.sl deep_b0 deep_i0 deep_n0 deep_c0), (1, V.ptr x_b0 x_i0), (3, V.int IntKind.i64 n0), (4, V.sl used_b0 used_i0 used_n0 used_c0)] H0 K1 = (
  splitB (decide (i0 ≥ 0))
  (J_spec_RxOk_11 D R K1 [(8, V.int IntKind.i64 i0), (7, V.sl deep_b0 deep_i0 deep_n0 deep_c0), (1, V.ptr x_b0 x_i0), (3, V.int IntKind.i64 n0), (4, V.sl used_b0 used_i0 used_n0 used_c0)]
    H0)
  (J_spec_RxOk_8 D R [] H0)) := (hD _ _ _ _ _ _).trans (by kernel_rfl)
theorem L_spec_RxOk_10_eq (hD : IsD 112 [2] D) {k0 n0 : Int} {used_b0 used_i0 used_n0 : Nat} {used_c0 : Cap} {x_b0 x_i0 : Nat} {i0 : Int} {H0 : AH} : L_spec_RxOk_10 D R K1 [(6, V.int IntKind.i64 k0), (3, V.int IntKind.i64 n0), (4, V.sl used_b0 used_i0 used_n0 used_c0), (1, V.ptr x_b0 x_i0), (5, V.int IntKind.i64 i0)] H0 K2 = (
  ld H0 x_b0 x_i0 fun v0 =>
  asSl v0 fun b0 i1 n1 c0 =>
    inB i0 n1 ∧
      ld H0 b0 (i1 + i0.toNat * 5 + 2) fun v1 =>
        asSl v1 fun b1 i2 n2 c1 =>
          splitB (decide (k0 < (↑n2 : Int)))
            (J_spec_RxOk_12 D R K1 K2 [(6, V.int IntKind.i64 k0), (3, V.int IntKind.i64 n0), (4, V.sl used_b0 used_i0 used_n0 used_c0), (1, V.ptr x_b0 x_i0), (5, V.int IntKind.i64 i0)] H0)
            (J_spec_RxOk_6 D R K1 [(5, V.int IntKind.i64 i0), (1, V.ptr x_b0 x_i0), (4, V.sl used_b0 used_i0 used_n0 used_c0), (3, V.int IntKind.i64 n0)] H0)) := (hD _ _ _ _ _ _).trans (by kernel_rfl)
theorem J_spec_RxOk_11_eq (hD : IsD 112 [2] D) {i0 : Int} {deep_b0 deep_i0 deep_n0 : Nat} {deep_c0 : Cap} {x_b0 x_i0 : Nat} {n0 : Int} {used_b0 used_i0 used_n0 : Nat} {used_c0 : Cap} {H0 : AH} : J_spec_RxOk_11 D R K1 [(8, V.int IntKind.i64 i0), (7, V.sl deep_b0 deep_i0 deep_n0 deep_c0), (1, V.ptr x_b0 x_i0), (3, V.int IntKind.i64 n0), (4, V.sl used_b0 used_i0 used_n0 used_c0)] H0 = (
  splitB (decide (i0 < IntKind.i64.wrap (n0 - 1)))
  (inB i0 used_n0 ∧
    ld H0 used_b0 (used_i0 + i0.toNat * 1) fun v0 =>
      asInt IntKind.i64 v0 fun n1 =>
        splitB (n1 != 1)
          (J_spec_RxOk_15 D R K1
            [(84, V.bool true), (8, V.int IntKind.i64 i0), (7, V.sl deep_b0 deep_i0 deep_n0 deep_c0), (1, V.ptr x_b0 x_i0), (3, V.int IntKind.i64 n0), (4, V.sl used_b0 used_i0 used_n0 used_c0)] H0)
          (inB i0 deep_n0 ∧
            ld H0 deep_b0 (deep_i0 + i0.toNat * 1) fun v1 =>
              asInt IntKind.i64 v1 fun n2 =>
                J_spec_RxOk_15 D R K1
                  [(84, V.bool (decide (n2 > 150))), (8, V.int IntKind.i64 i0), (7, V.sl deep_b0 deep_i0 deep_n0 deep_c0), (1, V.ptr x_b0 x_i0), (3, V.int IntKind.i64 n0),
                    (4, V.sl used_b0 used_i0 used_n0 used_c0)]
                  H0))
  (inB i0 deep_n0 ∧
    ld H0 deep_b0 (deep_i0 + i0.toNat * 1) fun v2 =>
      asInt IntKind.i64 v2 fun n3 =>
        J_spec_RxOk_15 D R K1
          [(84, V.bool (decide (n3 > 150))), (8, V.int IntKind.i64 i0), (7, V.sl deep_b0 deep_i0 deep_n0 deep_c0), (1, V.ptr x_b0 x_i0), (3, V.int IntKind.i64 n0),
            (4, V.sl used_b0 used_i0 used_n0 used_c0)]
          H0)) := (hD _ _ _ _ _ _).trans (by kernel_rfl)
theorem J_spec_RxOk_8_eq (hD : IsD 112 [2] D) {H0 : AH} : J_spec_RxOk_8 D R [] H0 = (
  R (V.bool true) H0) := (hD _ _ _ _ _ _).trans (by kernel_rfl)
theorem J_spec_RxOk_12_eq (hD : IsD 112 [2] D) {k0 n0 : Int} {used_b0 used_i0 used_n0 : Nat} {used_c0 : Cap} {x_b0 x_i0 : Nat} {i0 : Int} {H0 : AH} : J_spec_RxOk_12 D R K1 K2 [(6, V.int IntKind.i64 k0), (3, V.int IntKind.i64 n0), (4, V.sl used_b0 used_i0 used_n0 used_c0), (1, V.ptr x_b0 x_i0), (5, V.int IntKind.i64 i0)] H0 = (
  ld H0 x_b0 x_i0 fun v0 =>
  asSl v0 fun b0 i1 n1 c0 =>
    inB i0 n1 ∧
      ld H0 b0 (i1 + i0.toNat * 5 + 2) fun v1 =>
        asSl v1 fun b1 i2 n2 c1 =>
          inB k0 n2 ∧
            ld H0 b1 (i2 + k0.toNat * 1) fun v2 =>
              asInt IntKind.i64 v2 fun n3 =>
                inB n3 used_n0 ∧
                  ld H0 used_b0 (used_i0 + n3.toNat * 1) fun v3 =>
                    asInt IntKind.i64 v3 fun n4 =>
                      inB n3 used_n0 ∧
                        stK H0 used_b0 (used_i0 + n3.toNat * 1) [V.int IntKind.i64 (IntKind.i64.wrap (n4 + 1))] fun H1 =>
                          J_spec_RxOk_16 D R K1 K2
                            [(6, V.int IntKind.i64 k0), (3, V.int IntKind.i64 n0), (4, V.sl used_b0 used_i0 used_n0 used_c0), (1, V.ptr x_b0 x_i0), (5, V.int IntKind.i64 i0)] H1) := (hD _ _ _ _ _ _).trans (by kernel_rfl)
theorem J_spec_RxOk_6_eq (hD : IsD 112 [2] D) {i0 : Int} {x_b0 x_i0 used_b0 used_i0 used_n0 : Nat} {used_c0 : Cap} {n0 : Int} {H0 : AH} : J_spec_RxOk_6 D R K1 [(5, V.int IntKind.i64 i0), (1, V.ptr x_b0 x_i0), (4, V.sl used_b0 used_i0 used_n0 used_c0), (3, V.int IntKind.i64 n0)] H0 = (
  K1 [(5, V.int IntKind.i64 (IntKind.i64.wrap (i0 + 1))), (1, V.ptr x_b0 x_i0), (4, V.sl used_b0 used_i0 used_n0 used_c0), (3, V.int IntKind.i64 n0)] H0) := (hD _ _ _ _ _ _).trans (by kernel_rfl)
theorem J_spec_RxOk_15_eq (hD : IsD 112 [2] D) {x840 : Bool} {i0 : Int} {deep_b0 deep_i0 deep_n0 : Nat} {deep_c0 : Cap} {x_b0 x_i0 : Nat} {n0 : Int} {used_b0 used_i0 used_n0 : Nat} {used_c0 : Cap} {H0 : AH} : J_spec_RxOk_15 D R K1 [(84, V.bool x840), (8, V.int IntKind.i64 i0), (7, V.sl deep_b0 deep_i0 deep_n0 deep_c0), (1, V.ptr x_b0 x_i0), (3, V.int IntKind.i64 n0), (4, V.sl used_b0 used_i0 used_n0 used_c0)] H0 = (
  splitB x840 (R (V.bool false) H0)
  (J_spec_RxOk_14 D R K1 [(4, V.sl used_b0 used_i0 used_n0 used_c0), (3, V.int IntKind.i64 n0), (1, V.ptr x_b0 x_i0), (7, V.sl deep_b0 deep_i0 deep_n0 deep_c0), (8, V.int IntKind.i64 i0)]
    H0)) := (hD _ _ _ _ _ _).trans (by kernel_rfl)
theorem J_spec_RxOk_16_eq (hD : IsD 112 [2] D) {k0 n0 : Int} {used_b0 used_i0 used_n0 : Nat} {used_c0 : Cap} {x_b0 x_i0 : Nat} {i0 : Int} {H0 : AH} : J_spec_RxOk_16 D R K1 K2 [(6, V.int IntKind.i64 k0), (3, V.int IntKind.i64 n0), (4, V.sl used_b0 used_i0 used_n0 used_c0), (1, V.ptr x_b0 x_i0), (5, V.int IntKind.i64 i0)] H0 = (
  K2 [(6, V.int IntKind.i64 (IntKind.i64.wrap (k0 + 1))), (3, V.int IntKind.i64 n0), (4, V.sl used_b0 used_i0 used_n0 used_c0), (1, V.ptr x_b0 x_i0), (5, V.int IntKind.i64 i0)] H0) := (hD _ _ _ _ _ _).trans (by kernel_rfl)
theorem J_spec_RxOk_14_eq (hD : IsD 112 [2] D) {used_b0 used_i0 used_n0 : Nat} {used_c0 : Cap} {n0 : Int} {x_b0 x_i0 deep_b0 deep_i0 deep_n0 : Nat} {deep_c0 : Cap} {i0 : Int} {H0 : AH} : J_spec_RxOk_14 D R K1 [(4, V.sl used_b0 used_i0 used_n0 used_c0), (3, V.int IntKind.i64 n0), (1, V.ptr x_b0 x_i0), (7, V.sl deep_b0 deep_i0 deep_n0 deep_c0), (8, V.int IntKind.i64 i0)] H0 = (
  LoopI (L_spec_RxOk_17 D R K1)
  [(9, V.int IntKind.i64 0), (4, V.sl used_b0 used_i0 used_n0 used_c0), (3, V.int IntKind.i64 n0), (1, V.ptr x_b0 x_i0), (7, V.sl deep_b0 deep_i0 deep_n0 deep_c0), (8, V.int IntKind.i64 i0)] H0) := (hD _ _ _ _ _ _).trans (by kernel_rfl)
theorem L_spec_RxOk_17_eq (hD : IsD 112 [2] D) {k0 : Int} {used_b0 used_i0 used_n0 : Nat} {used_c0 : Cap} {n0 : Int} {x_b0 x_i0 deep_b0 deep_i0 deep_n0 : Nat} {deep_c0 : Cap} {i0 : Int} {H0 : AH} : L_spec_RxOk_17 D R K1 [(9, V.int IntKind.i64 k0), (4, V.sl used_b0 used_i0 used_n0 used_c0), (3, V.int IntKind.i64 n0), (1, V.ptr x_b0 x_i0), (7, V.sl deep_b0 deep_i0 deep_n0 deep_c0), (8, V.int IntKind.i64 i0)] H0 K2 = (
  ld H0 x_b0 x_i0 fun v0 =>
  asSl v0 fun b0 i1 n1 c0 =>
    inB i0 n1 ∧
      ld H0 b0 (i1 + i0.toNat * 5 + 2) fun v1 =>
        asSl v1 fun b1 i2 n2 c1 =>
          splitB (decide (k0 < (↑n2 : Int)))
            (J_spec_RxOk_18 D R K1 K2
              [(9, V.int IntKind.i64 k0), (4, V.sl used_b0 used_i0 used_n0 used_c0), (3, V.int IntKind.i64 n0), (1, V.ptr x_b0 x_i0), (7, V.sl deep_b0 deep_i0 deep_n0 deep_c0),
                (8, V.int IntKind.i64 i0)]
              H0)
            (J_spec_RxOk_13 D R K1
              [(8, V.int IntKind.i64 i0), (7, V.sl deep_b0 deep_i0 deep_n0 deep_c0), (1, V.ptr x_b0 x_i0), (3, V.int IntKind.i64 n0), (4, V.sl used_b0 used_i0 used_n0 used_c0)] H0)) := (hD _ _ _ _ _ _).trans (by kernel_rfl)
theorem J_spec_RxOk_18_eq (hD : IsD 112 [2] D) {k0 : Int} {used_b0 used_i0 used_n0 : Nat} {used_c0 : Cap} {n0 : Int} {x_b0 x_i0 deep_b0 deep_i0 deep_n0 : Nat} {deep_c0 : Cap} {i0 : Int} {H0 : AH} : J_spec_RxOk_18 D R K1 K2 [(9, V.int IntKind.i64 k0), (4, V.sl used_b0 used_i0 used_n0 used_c0), (3, V.int IntKind.i64 n0), (1, V.ptr x_b0 x_i0), (7, V.sl deep_b0 deep_i0 deep_n0 deep_c0), (8, V.int IntKind.i64 i0)] H0 = (
  ld H0 x_b0 x_i0 fun v0 =>
  asSl v0 fun b0 i1 n1 c0 =>
    inB i0 n1 ∧
      ld H0 b0 (i1 + i0.toNat * 5 + 2) fun v1 =>
        asSl v1 fun b1 i2 n2 c1 =>
          inB k0 n2 ∧
            ld H0 b1 (i2 + k0.toNat * 1) fun v2 =>
              asInt IntKind.i64 v2 fun n3 =>
                inB i0 deep_n0 ∧
                  ld H0 deep_b0 (deep_i0 + i0.toNat * 1) fun v3 =>
                    asInt IntKind.i64 v3 fun n4 =>
                      inB n3 deep_n0 ∧
                        stK H0 deep_b0 (deep_i0 + n3.toNat * 1) [V.int IntKind.i64 (IntKind.i64.wrap (n4 + 1))] fun H1 =>
                          J_spec_RxOk_19 D R K1 K2
                            [(9, V.int IntKind.i64 k0), (4, V.sl used_b0 used_i0 used_n0 used_c0), (3, V.int IntKind.i64 n0), (1, V.ptr x_b0 x_i0), (7, V.sl deep_b0 deep_i0 deep_n0 deep_c0),
                              (8, V.int IntKind.i64 i0)]
                            H1) := (hD _ _ _ _ _ _).trans (by kernel_rfl)
theorem J_spec_RxOk_13_eq (hD : IsD 112 [2] D) {i0 : Int} {deep_b0 deep_i0 deep_n0 : Nat} {deep_c0 : Cap} {x_b0 x_i0 : Nat} {n0 : Int} {used_b0 used_i0 used_n0 : Nat} {used_c0 : Cap} {H0 : AH} : J_spec_RxOk_13 D R K1 [(8, V.int IntKind.i64 i0), (7, V.sl deep_b0 deep_i0 deep_n0 deep_c0), (1, V.ptr x_b0 x_i0), (3, V.int IntKind.i64 n0), (4, V.sl used_b0 used_i0 used_n0 used_c0)] H0 = (
  K1 [(8, V.int IntKind.i64 (IntKind.i64.wrap (i0 - 1))), (7, V.sl deep_b0 deep_i0 deep_n0 deep_c0), (1, V.ptr x_b0 x_i0), (3, V.int IntKind.i64 n0), (4, V.sl used_b0 used_i0 used_n0 used_c0)] H0) := (hD _ _ _ _ _ _).trans (by kernel_rfl)
theorem J_spec_RxOk_19_eq (hD : IsD 112 [2] D) {k0 : Int} {used_b0 used_i0 used_n0 : Nat} {used_c0 : Cap} {n0 : Int} {x_b0 x_i0 deep_b0 deep_i0 deep_n0 : Nat} {deep_c0 : Cap} {i0 : Int} {H0 : AH} : J_spec_RxOk_19 D R K1 K2 [(9, V.int IntKind.i64 k0), (4, V.sl used_b0 used_i0 used_n0 used_c0), (3, V.int IntKind.i64 n0), (1, V.ptr x_b0 x_i0), (7, V.sl deep_b0 deep_i0 deep_n0 deep_c0), (8, V.int IntKind.i64 i0)] H0 = (
  K2
  [(9, V.int IntKind.i64 (IntKind.i64.wrap (k0 + 1))), (4, V.sl used_b0 used_i0 used_n0 used_c0), (3, V.int IntKind.i64 n0), (1, V.ptr x_b0 x_i0), (7, V.sl deep_b0 deep_i0 deep_n0 deep_c0),
    (8, V.int IntKind.i64 i0)]
  H0) := (hD _ _ _ _ _ _).trans (by kernel_rfl)

/-! ### spec_l3Node -/
noncomputable def spec_l3Node_b : Code := (Go.Proofs.Tryd.f40.body).getD .skip
noncomputable abbrev spec_l3Node_p (R : V → AH → Prop) : APost := postK prog (Go.Proofs.Tryd.f40.results.toList) R
def J_spec_l3Node_1 (D : Den) (R : V → AH → Prop) (env : Env) (H : AH) : Prop := D (cAt [1, 1] spec_l3Node_b) [] [] env H (spec_l3Node_p R)
def J_spec_l3Node_2 (D : Den) (R : V → AH → Prop) (env : Env) (H : AH) : Prop := D (cAt [1, 0, 1] spec_l3Node_b) [] [2, 1] env H (seqQ (fun e H => J_spec_l3Node_1 D R (keepE e [2, 1]) H) (spec_l3Node_p R))
def J_spec_l3Node_3 (D : Den) (R : V → AH → Prop) (env : Env) (H : AH) : Prop := D (cAt [1, 1, 1] spec_l3Node_b) [] [] env H (spec_l3Node_p R)
def L_spec_l3Node_4 (D : Den) (R : V → AH → Prop) (env : Env) (H : AH) (K1 : Env → AH → Prop) : Prop := D (cAt [1, 1, 0, 1, 0, 0] spec_l3Node_b) [(0, [2])] [2, 1, 5] env H (seqQ (fun e H => K1 (keepE e [2, 1, 5]) H) (blockQ 0 (seqQ (fun e H => J_spec_l3Node_3 D R (keepE e [2]) H) (spec_l3Node_p R))))
def J_spec_l3Node_5 (D : Den) (R : V → AH → Prop) (K1 : Env → AH → Prop) (env : Env) (H : AH) : Prop := D (cAt [1, 1, 0, 1, 0, 0, 1] spec_l3Node_b) [(0, [2])] [2, 1, 5] env H (seqQ (fun e H => K1 (keepE e [2, 1, 5]) H) (blockQ 0 (seqQ (fun e H => J_spec_l3Node_3 D R (keepE e [2]) H) (spec_l3Node_p R))))
def J_spec_l3Node_6 (D : Den) (R : V → AH → Prop) (K1 : Env → AH → Prop) (env : Env) (H : AH) : Prop := D (cAt [1, 1, 0, 1, 0, 0, 1, 1] spec_l3Node_b) [(0, [2])] [2, 1, 5] env H (seqQ (fun e H => K1 (keepE e [2, 1, 5]) H) (blockQ 0 (seqQ (fun e H => J_spec_l3Node_3 D R (keepE e [2]) H) (spec_l3Node_p R))))
def J_spec_l3Node_7 (D : Den) (R : V → AH → Prop) (env : Env) (H : AH) : Prop := D (cAt [1, 1, 1, 1] spec_l3Node_b) [] [] env H (spec_l3Node_p R)
def J_spec_l3Node_8 (D : Den) (R : V → AH → Prop) (env : Env) (H : AH) : Prop := D (cAt [1, 1, 1, 0, 1] spec_l3Node_b) [] [2] env H (seqQ (fun e H => J_spec_l3Node_7 D R (keepE e [2]) H) (spec_l3Node_p R))
def J_spec_l3Node_9 (D : Den) (R : V → AH → Prop) (env : Env) (H : AH) : Prop := D (cAt [1, 1, 1, 1, 1] spec_l3Node_b) [] [] env H (spec_l3Node_p R)
def J_spec_l3Node_10 (D : Den) (R : V → AH → Prop) (env : Env) (H : AH) : Prop := D (cAt [1, 1, 1, 1, 0, 1, 0, 1] spec_l3Node_b) [] [2] env H (seqQ (fun e H => J_spec_l3Node_9 D R (keepE e [2]) H) (spec_l3Node_p R))
def J_spec_l3Node_11 (D : Den) (R : V → AH → Prop) (env : Env) (H : AH) : Prop := D (cAt [1, 1, 1, 1, 1, 1] spec_l3Node_b) [] [] env H (spec_l3Node_p R)
theorem spec_l3Node_in {args : List V} {H : AH} {R : V → AH → Prop} (h : ∀ D, IsD 88 [4] D → D spec_l3Node_b [] [] (argEnv 0 args) H (spec_l3Node_p R)) (hn : args.length ≤ 88 := by exact of_decide_eq_true rfl) : CallsA prog spec_l3Node args H R := callsD_of Go.Proofs.Tryd.func40 (by kernel_rfl) (by kernel_rfl) (by kernel_rfl) (enters_of Go.Proofs.Tryd.func40 (by kernel_rfl) rfl) hn h
theorem spec_l3Node_eq (hD : IsD 88 [4] D) {n0 : Int} {n_b0 n_i0 n_n0 : Nat} {n_c0 : Cap} {n_b1 n_i1 n_n1 : Nat} {n_c1 : Cap} {n1 n2 at0 : Int} {H0 : AH} : D spec_l3Node_b [] [] (argEnv 0 [V.agg [V.int IntKind.i64 n0, V.sl n_b0 n_i0 n_n0 n_c0, V.sl n_b1 n_i1 n_n1 n_c1, V.int IntKind.i64 n1, V.int IntKind.i64 n2], V.int IntKind.i64 at0]) H0 (spec_l3Node_p R) = (
  ld (H0 ++ [Blk.cells [V.int IntKind.i64 n0, V.sl n_b0 n_i0 n_n0 n_c0, V.sl n_b1 n_i1 n_n1 n_c1, V.int IntKind.i64 n1, V.int IntKind.i64 n2] false]) (List.length H0) 0 fun v0 =>
  asInt IntKind.i64 v0 fun n3 =>
    CallsA prog spec_l1In [V.int IntKind.i64 n3, V.int IntKind.i64 1, V.int IntKind.i64 8]
      (H0 ++ [Blk.cells [V.int IntKind.i64 n0, V.sl n_b0 n_i0 n_n0 n_c0, V.sl n_b1 n_i1 n_n1 n_c1, V.int IntKind.i64 n1, V.int IntKind.i64 n2] false]) fun v1 H1 =>
      asBool v1 fun t0 =>
        splitB (!t0) (J_spec_l3Node_2 D R [(18, V.bool true), (1, V.int IntKind.i64 at0), (2, V.ptr (List.length H0) 0)] H1)
          (ld H1 (List.length H0) 2 fun v2 =>
            asSl v2 fun b0 i0 n4 c0 =>
              ld H1 (List.length H0) 0 fun v3 =>
                asInt IntKind.i64 v3 fun n5 =>
                  CallsA prog spec_l3Kids [V.int IntKind.i64 n5] H1 fun v4 H2 =>
                    asInt IntKind.i64 v4 fun n6 =>
                      H2.cell (List.length H0) 2 = some (V.sl b0 i0 n4 c0) ∧
                        J_spec_l3Node_2 D R [(18, V.bool ((↑n4 : Int) != n6)), (1, V.int IntKind.i64 at0), (2, V.ptr (List.length H0) 0)] H2)) := (hD _ _ _ _ _ _).trans (by kernel_rfl)
theorem J_spec_l3Node_2_eq (hD : IsD 88 [4] D) {x180 : Bool} {at0 : Int} {n_b0 n_i0 : Nat} {H0 : AH} : J_spec_l3Node_2 D R [(18, V.bool x180), (1, V.int IntKind.i64 at0), (2, V.ptr n_b0 n_i0)] H0 = (
  splitB x180 (R (V.bool false) H0) (J_spec_l3Node_1 D R [(2, V.ptr n_b0 n_i0), (1, V.int IntKind.i64 at0)] H0)) := (hD _ _ _ _ _ _).trans (by kernel_rfl)
theorem J_spec_l3Node_1_eq (hD : IsD 88 [4] D) {n_b0 n_i0 : Nat} {at0 : Int} {H0 : AH} : J_spec_l3Node_1 D R [(2, V.ptr n_b0 n_i0), (1, V.int IntKind.i64 at0)] H0 = (
  LoopI (L_spec_l3Node_4 D R) [(2, V.ptr n_b0 n_i0), (1, V.int IntKind.i64 at0), (5, V.int IntKind.i64 0)] H0) := (hD _ _ _ _ _ _).trans (by kernel_rfl)
theorem L_spec_l3Node_4_eq (hD : IsD 88 [4] D) {n_b0 n_i0 : Nat} {at0 k0 : Int} {H0 : AH} : L_spec_l3Node_4 D R [(2, V.ptr n_b0 n_i0), (1, V.int IntKind.i64 at0), (5, V.int IntKind.i64 k0)] H0 K1 = (
  ld H0 n_b0 (n_i0 + 2) fun v0 =>
  asSl v0 fun b0 i0 n0 c0 =>
    splitB (decide (k0 < (↑n0 : Int))) (J_spec_l3Node_5 D R K1 [(1, V.int IntKind.i64 at0), (2, V.ptr n_b0 n_i0), (5, V.int IntKind.i64 k0)] H0)
      (J_spec_l3Node_3 D R [(2, V.ptr n_b0 n_i0)] H0)) := (hD _ _ _ _ _ _).trans (by kernel_rfl)
theorem J_spec_l3Node_5_eq (hD : IsD 88 [4] D) {at0 : Int} {n_b0 n_i0 : Nat} {k0 : Int} {H0 : AH} : J_spec_l3Node_5 D R K1 [(1, V.int IntKind.i64 at0), (2, V.ptr n_b0 n_i0), (5, V.int IntKind.i64 k0)] H0 = (
  ld H0 n_b0 (n_i0 + 2) fun v0 =>
  asSl v0 fun b0 i0 n0 c0 =>
    inB k0 n0 ∧
      ld H0 b0 (i0 + k0.toNat * 1) fun v1 =>
        asInt IntKind.i64 v1 fun n1 =>
          CallsA prog spec_l1In [V.int IntKind.i64 n1, V.int IntKind.i64 0, V.int IntKind.i64 (IntKind.i64.wrap (at0 - 1))] H0 fun v2 H1 =>
            asBool v2 fun t0 => splitB (!t0) (R (V.bool false) H1) (J_spec_l3Node_6 D R K1 [(5, V.int IntKind.i64 k0), (2, V.ptr n_b0 n_i0), (1, V.int IntKind.i64 at0)] H1)) := (hD _ _ _ _ _ _).trans (by kernel_rfl)
theorem J_spec_l3Node_3_eq (hD : IsD 88 [4] D) {n_b0 n_i0 : Nat} {H0 : AH} : J_spec_l3Node_3 D R [(2, V.ptr n_b0 n_i0)] H0 = (
  ld H0 n_b0 n_i0 fun v0 =>
  asInt IntKind.i64 v0 fun n0 =>
    splitB (n0 == 2)
      (ld H0 n_b0 (n_i0 + 1) fun v1 =>
        asSl v1 fun b0 i0 n1 c0 =>
          CallsA prog spec_ClassOk [V.sl b0 i0 n1 c0] H0 fun v2 H1 =>
            asBool v2 fun t0 =>
              splitB (!t0) (J_spec_l3Node_8 D R [(60, V.bool true), (2, V.ptr n_b0 n_i0)] H1)
                (ld H1 n_b0 (n_i0 + 1) fun v3 =>
                  asSl v3 fun b1 i1 n2 c1 =>
                    splitB ((↑n2 : Int) == 0) (J_spec_l3Node_8 D R [(60, V.bool true), (2, V.ptr n_b0 n_i0)] H1)
                      (ld H1 n_b0 n_i0 fun v4 =>
                        asInt IntKind.i64 v4 fun n3 =>
                          splitB (n3 != 2)
                            (ld H1 n_b0 (n_i0 + 1) fun v5 => asSl v5 fun b2 i2 n4 c2 => J_spec_l3Node_8 D R [(60, V.bool (decide ((↑n4 : Int) > 0))), (2, V.ptr n_b0 n_i0)] H1)
                            (J_spec_l3Node_8 D R [(60, V.bool false), (2, V.ptr n_b0 n_i0)] H1))))
      (ld H0 n_b0 n_i0 fun v6 =>
        asInt IntKind.i64 v6 fun n5 =>
          splitB (n5 != 2) (ld H0 n_b0 (n_i0 + 1) fun v7 => asSl v7 fun b3 i3 n6 c3 => J_spec_l3Node_8 D R [(60, V.bool (decide ((↑n6 : Int) > 0))), (2, V.ptr n_b0 n_i0)] H0)
            (J_spec_l3Node_8 D R [(60, V.bool false), (2, V.ptr n_b0 n_i0)] H0))) := (hD _ _ _ _ _ _).trans (by kernel_rfl)
theorem J_spec_l3Node_6_eq (hD : IsD 88 [4] D) {k0 : Int} {n_b0 n_i0 : Nat} {at0 : Int} {H0 : AH} : J_spec_l3Node_6 D R K1 [(5, V.int IntKind.i64 k0), (2, V.ptr n_b0 n_i0), (1, V.int IntKind.i64 at0)] H0 = (
  K1 [(2, V.ptr n_b0 n_i0), (1, V.int IntKind.i64 at0), (5, V.int IntKind.i64 (IntKind.i64.wrap (k0 + 1)))] H0) := (hD _ _ _ _ _ _).trans (by kernel_rfl)
theorem J_spec_l3Node_8_eq (hD : IsD 88 [4] D) {x600 : Bool} {n_b0 n_i0 : Nat} {H0 : AH} : J_spec_l3Node_8 D R [(60, V.bool x600), (2, V.ptr n_b0 n_i0)] H0 = (
  splitB x600 (R (V.bool false) H0) (J_spec_l3Node_7 D R [(2, V.ptr n_b0 n_i0)] H0)) := (hD _ _ _ _ _ _).trans (by kernel_rfl)
theorem J_spec_l3Node_7_eq (hD : IsD 88 [4] D) {n_b0 n_i0 : Nat} {H0 : AH} : J_spec_l3Node_7 D R [(2, V.ptr n_b0 n_i0)] H0 = (
  ld H0 n_b0 n_i0 fun v0 =>
  asInt IntKind.i64 v0 fun n0 =>
    splitB (n0 != 8)
      (ld H0 n_b0 (n_i0 + 3) fun v1 =>
        asInt IntKind.i64 v1 fun n1 =>
          splitB (n1 == 0) (ld H0 n_b0 (n_i0 + 4) fun v2 => asInt IntKind.i64 v2 fun n2 => J_spec_l3Node_10 D R [(4, V.bool (n2 == 0))] H0)
            (J_spec_l3Node_10 D R [(4, V.bool false)] H0))
      (J_spec_l3Node_9 D R [(2, V.ptr n_b0 n_i0)] H0)) := (hD _ _ _ _ _ _).trans (by kernel_rfl)
theorem J_spec_l3Node_10_eq (hD : IsD 88 [4] D) {x40 : Bool} {H0 : AH} : J_spec_l3Node_10 D R [(4, V.bool x40)] H0 = (
  R (V.bool x40) H0) := (hD _ _ _ _ _ _).trans (by kernel_rfl)
theorem J_spec_l3Node_9_eq (hD : IsD 88 [4] D) {n_b0 n_i0 : Nat} {H0 : AH} : J_spec_l3Node_9 D R [(2, V.ptr n_b0 n_i0)] H0 = (
  ld H0 n_b0 (n_i0 + 3) fun v0 =>
  asInt IntKind.i64 v0 fun n0 =>
    CallsA prog spec_l1In [V.int IntKind.i64 n0, V.int IntKind.i64 0, V.int IntKind.i64 30] H0 fun v1 H1 =>
      asBool v1 fun t0 =>
        splitB t0
          (ld H1 n_b0 (n_i0 + 4) fun v2 =>
            asInt IntKind.i64 v2 fun n1 =>
              splitB (n1 == -1) (J_spec_l3Node_11 D R [(4, V.bool true)] H1)
                (ld H1 n_b0 (n_i0 + 4) fun v3 =>
                  asInt IntKind.i64 v3 fun n2 =>
                    ld H1 n_b0 (n_i0 + 3) fun v4 =>
                      asInt IntKind.i64 v4 fun n3 =>
                        CallsA prog spec_l1In [V.int IntKind.i64 n2, V.int IntKind.i64 (if n3 > 1 then n3 else 1), V.int IntKind.i64 30] H1 fun v5 H2 =>
                          asBool v5 fun t1 => J_spec_l3Node_11 D R [(4, V.bool t1)] H2))
          (J_spec_l3Node_11 D R [(4, V.bool false)] H1)) := (hD _ _ _ _ _ _).trans (by kernel_rfl)
theorem J_spec_l3Node_11_eq (hD : IsD 88 [4] D) {x40 : Bool} {H0 : AH} : J_spec_l3Node_11 D R [(4, V.bool x40)] H0 = (
  R (V.bool x40) H0) := (hD _ _ _ _ _ _).trans (by kernel_rfl)

/-! ### impl_Rx_first -/
noncomputable def impl_Rx_first_b : Code := (Go.Proofs.Tryd.f28.body).getD .skip
noncomputable abbrev impl_Rx_first_p (R : V → AH → Prop) : APost := postK prog (Go.Proofs.Tryd.f28.results.toList) R
def J_impl_Rx_first_1 (D : Den) (R : V → AH → Prop) (env : Env) (H : AH) : Prop := D (cAt [1, 1, 1] impl_Rx_first_b) [] [] env H (impl_Rx_first_p R)
def J_impl_Rx_first_2 (D : Den) (R : V → AH → Prop) (env : Env) (H : AH) : Prop := D (cAt [1, 1, 0, 1, 0, 1, 1, 1, 1, 1, 0, 1] impl_Rx_first_b) [(0, [2, 5])] [2, 5] env H (blockQ 0 (seqQ (fun e H => J_impl_Rx_first_1 D R (keepE e [2, 5]) H) (impl_Rx_first_p R)))
theorem impl_Rx_first_in {args : List V} {H : AH} {R : V → AH → Prop} (h : ∀ D, IsD 68 [4] D → D impl_Rx_first_b [] [] (argEnv 0 args) H (impl_Rx_first_p R)) (hn : args.length ≤ 68 := by exact of_decide_eq_true rfl) : CallsA prog impl_Rx_first args H R := callsD_of Go.Proofs.Tryd.func28 (by kernel_rfl) (by kernel_rfl) (by kernel_rfl) (enters_of Go.Proofs.Tryd.func28 (by kernel_rfl) rfl) hn h
theorem impl_Rx_first_eq (hD : IsD 68 [4] D) {x_b0 x_i0 x_n0 : Nat} {x_c0 : Cap} {place0 : Int} {H0 : AH} : D impl_Rx_first_b [] [] (argEnv 0 [V.agg [V.sl x_b0 x_i0 x_n0 x_c0], V.int IntKind.i64 place0]) H0 (impl_Rx_first_p R) = (
  ld (H0 ++ [Blk.cells [V.sl x_b0 x_i0 x_n0 x_c0] false]) (List.length H0) 0 fun v0 =>
  asSl v0 fun b0 i0 n0 c0 =>
    inB place0 n0 ∧
      ld (H0 ++ [Blk.cells [V.sl x_b0 x_i0 x_n0 x_c0] false]) b0 (i0 + place0.toNat * 5 + 0) fun v1 =>
        asInt IntKind.i64 v1 fun n1 =>
          ld (H0 ++ [Blk.cells [V.sl x_b0 x_i0 x_n0 x_c0] false]) b0 (i0 + place0.toNat * 5 + 1) fun v2 =>
            asSl v2 fun b1 i1 n2 c1 =>
              ld (H0 ++ [Blk.cells [V.sl x_b0 x_i0 x_n0 x_c0] false]) b0 (i0 + place0.toNat * 5 + 2) fun v3 =>
                asSl v3 fun b2 i2 n3 c2 =>
                  ld (H0 ++ [Blk.cells [V.sl x_b0 x_i0 x_n0 x_c0] false]) b0 (i0 + place0.toNat * 5 + 3) fun v4 =>
                    asInt IntKind.i64 v4 fun n4 =>
                      ld (H0 ++ [Blk.cells [V.sl x_b0 x_i0 x_n0 x_c0] false]) b0 (i0 + place0.toNat * 5 + 4) fun v5 =>
                        asInt IntKind.i64 v5 fun n5 =>
                          stK
                            (H0 ++ [Blk.cells [V.sl x_b0 x_i0 x_n0 x_c0] false] ++
                              [Blk.cells [V.int IntKind.i64 0, V.sl 0 0 0 Cap.nil, V.sl 0 0 0 Cap.nil, V.int IntKind.i64 0, V.int IntKind.i64 0] false])
                            (List.length (H0 ++ [Blk.cells [V.sl x_b0 x_i0 x_n0 x_c0] false])) 0 [V.int IntKind.i64 n1, V.sl b1 i1 n2 c1, V.sl b2 i2 n3 c2, V.int IntKind.i64 n4, V.int IntKind.i64 n5]
                            fun H1 =>
                            ld H1 (List.length (H0 ++ [Blk.cells [V.sl x_b0 x_i0 x_n0 x_c0] false])) 0 fun v6 =>
                              asInt IntKind.i64 v6 fun n6 =>
                                splitB (n6 == 1) (R (V.sl 0 0 0 Cap.nil) H1)
                                  (splitB (n6 == 2) (ld H1 (List.length (H0 ++ [Blk.cells [V.sl x_b0 x_i0 x_n0 x_c0] false])) 1 fun v7 => asSl v7 fun b3 i3 n7 c3 => R (V.sl b3 i3 n7 c3) H1)
                                    (splitB (n6 == 3)
                                      (ld H1 (List.length H0) 0 fun v8 =>
                                        asSl v8 fun b4 i4 n8 c4 =>
                                          ld H1 (List.length (H0 ++ [Blk.cells [V.sl x_b0 x_i0 x_n0 x_c0] false])) 2 fun v9 =>
                                            asSl v9 fun b5 i5 n9 c5 =>
                                              inB 0 n9 ∧
                                                ld H1 b5 i5 fun v10 =>
                                                  asInt IntKind.i64 v10 fun n10 =>
                                                    CallsA prog impl_Rx_nullable [V.agg [V.sl b4 i4 n8 c4], V.int IntKind.i64 n10] H1 fun v11 H2 =>
                                                      asBool v11 fun t0 =>
                                                        splitB (!t0)
                                                          (ld H2 (List.length H0) 0 fun v12 =>
                                                            asSl v12 fun b6 i6 n11 c6 =>
                                                              ld H2 (List.length (H0 ++ [Blk.cells [V.sl x_b0 x_i0 x_n0 x_c0] false])) 2 fun v13 =>
                                                                asSl v13 fun b7 i7 n12 c7 =>
                                                                  inB 0 n12 ∧
                                                                    ld H2 b7 i7 fun v14 =>
                                                                      asInt IntKind.i64 v14 fun n13 =>
                                                                        CallsA prog impl_Rx_first [V.agg [V.sl b6 i6 n11 c6], V.int IntKind.i64 n13] H2 fun v15 H3 =>
                                                                          asSl v15 fun b8 i8 n14 c8 => R (V.sl b8 i8 n14 c8) H3)
                                                          (J_impl_Rx_first_2 D R
                                                            [(2, V.ptr (List.length H0) 0), (5, V.ptr (List.length (H0 ++ [Blk.cells [V.sl x_b0 x_i0 x_n0 x_c0] false])) 0)] H2))
                                      (splitB (n6 == 4)
                                        (ld H1 (List.length H0) 0 fun v16 =>
                                          asSl v16 fun b9 i9 n15 c9 =>
                                            ld H1 (List.length (H0 ++ [Blk.cells [V.sl x_b0 x_i0 x_n0 x_c0] false])) 2 fun v17 =>
                                              asSl v17 fun b10 i10 n16 c10 =>
                                                inB 0 n16 ∧
                                                  ld H1 b10 i10 fun v18 =>
                                                    asInt IntKind.i64 v18 fun n17 =>
                                                      ld H1 (List.length H0) 0 fun v19 =>
                                                        asSl v19 fun b11 i11 n18 c11 =>
                                                          ld H1 (List.length (H0 ++ [Blk.cells [V.sl x_b0 x_i0 x_n0 x_c0] false])) 2 fun v20 =>
                                                            asSl v20 fun b12 i12 n19 c12 =>
                                                              inB 1 n19 ∧
                                                                ld H1 b12 (i12 + 1) fun v21 =>
                                                                  asInt IntKind.i64 v21 fun n20 =>
                                                                    CallsA prog impl_Rx_first [V.agg [V.sl b9 i9 n15 c9], V.int IntKind.i64 n17] H1 fun v22 H4 =>
                                                                      asSl v22 fun b13 i13 n21 c13 =>
                                                                        H4.cell b12 (i12 + 1) = some (V.int IntKind.i64 n20) ∧
                                                                          H4.cell (List.length (H0 ++ [Blk.cells [V.sl x_b0 x_i0 x_n0 x_c0] false])) 2 = some (V.sl b12 i12 n19 c12) ∧
                                                                            (H4.cell (List.length H0) 0 = some (V.sl b11 i11 n18 c11) ∧ True) ∧
                                                                              CallsA prog impl_Rx_first [V.agg [V.sl b11 i11 n18 c11], V.int IntKind.i64 n20] H4 fun v23 H5 =>
                                                                                asSl v23 fun b14 i14 n22 c14 =>
                                                                                  CallsA prog impl_Joined [V.sl b13 i13 n21 c13, V.sl b14 i14 n22 c14] H5 fun v24 H6 =>
                                                                                    asSl v24 fun b15 i15 n23 c15 => R (V.sl b15 i15 n23 c15) H6)
                                        (J_impl_Rx_first_1 D R [(2, V.ptr (List.length H0) 0), (5, V.ptr (List.length (H0 ++ [Blk.cells [V.sl x_b0 x_i0 x_n0 x_c0] false])) 0)] H1))))) := (hD _ _ _ _ _ _).trans (by kernel_rfl)
theorem J_impl_Rx_first_2_eq (hD : IsD 68 [4] D) {x_b0 x_i0 n_b0 n_i0 : Nat} {H0 : AH} : J_impl_Rx_first_2 D R [(2, V.ptr x_b0 x_i0), (5, V.ptr n_b0 n_i0)] H0 = (
  ld H0 x_b0 (x_i0 + 0) fun v0 =>
  asSl v0 fun b0 i0 n0 c0 =>
    ld H0 n_b0 (n_i0 + 2) fun v1 =>
      asSl v1 fun b1 i1 n1 c1 =>
        inB 0 n1 ∧
          ld H0 b1 i1 fun v2 =>
            asInt IntKind.i64 v2 fun n2 =>
              ld H0 x_b0 (x_i0 + 0) fun v3 =>
                asSl v3 fun b2 i2 n3 c2 =>
                  ld H0 n_b0 (n_i0 + 2) fun v4 =>
                    asSl v4 fun b3 i3 n4 c3 =>
                      inB 1 n4 ∧
                        ld H0 b3 (i3 + 1) fun v5 =>
                          asInt IntKind.i64 v5 fun n5 =>
                            CallsA prog impl_Rx_first [V.agg [V.sl b0 i0 n0 c0], V.int IntKind.i64 n2] H0 fun v6 H1 =>
                              asSl v6 fun b4 i4 n6 c4 =>
                                H1.cell b3 (i3 + 1) = some (V.int IntKind.i64 n5) ∧
                                  H1.cell n_b0 (n_i0 + 2) = some (V.sl b3 i3 n4 c3) ∧
                                    (H1.cell x_b0 (x_i0 + 0) = some (V.sl b2 i2 n3 c2) ∧ True) ∧
                                      CallsA prog impl_Rx_first [V.agg [V.sl b2 i2 n3 c2], V.int IntKind.i64 n5] H1 fun v7 H2 =>
                                        asSl v7 fun b5 i5 n7 c5 => CallsA prog impl_Joined [V.sl b4 i4 n6 c4, V.sl b5 i5 n7 c5] H2 fun v8 H3 => asSl v8 fun b6 i6 n8 c6 => R (V.sl b6 i6 n8 c6) H3) := (hD _ _ _ _ _ _).trans (by kernel_rfl)
theorem J_impl_Rx_first_1_eq (hD : IsD 68 [4] D) {x_b0 x_i0 n_b0 n_i0 : Nat} {H0 : AH} : J_impl_Rx_first_1 D R [(2, V.ptr x_b0 x_i0), (5, V.ptr n_b0 n_i0)] H0 = (
  ld H0 x_b0 (x_i0 + 0) fun v0 =>
  asSl v0 fun b0 i0 n0 c0 =>
    ld H0 n_b0 (n_i0 + 2) fun v1 =>
      asSl v1 fun b1 i1 n1 c1 =>
        inB 0 n1 ∧
          ld H0 b1 i1 fun v2 => asInt IntKind.i64 v2 fun n2 => CallsA prog impl_Rx_first [V.agg [V.sl b0 i0 n0 c0], V.int IntKind.i64 n2] H0 fun v3 H1 => asSl v3 fun b2 i2 n3 c2 => R (V.sl b2 i2 n3 c2) H1) := (hD _ _ _ _ _ _).trans (by kernel_rfl)

/-! ### impl_matcher_ends -/
noncomputable def impl_matcher_ends_b : Code := (Go.Proofs.Tryd.f25.body).getD .skip
noncomputable abbrev impl_matcher_ends_p (R : V → AH → Prop) : APost := postK prog (Go.Proofs.Tryd.f25.results.toList) R
def J_impl_matcher_ends_1 (D : Den) (R : V → AH → Prop) (env : Env) (H : AH) : Prop := D (cAt [1, 1, 1] impl_matcher_ends_b) [] [] env H (impl_matcher_ends_p R)
def L_impl_matcher_ends_2 (D : Den) (R : V → AH → Prop) (env : Env) (H : AH) (K1 : Env → AH → Prop) : Prop := D (cAt [1, 1, 0, 1, 0, 0] impl_matcher_ends_b) [(0, [1, 2, 0, 7])] [7, 18, 17, 0, 2, 1, 16] env H (seqQ (fun e H => K1 (keepE e [7, 18, 17, 0, 2, 1, 16]) H) (blockQ 0 (seqQ (fun e H => J_impl_matcher_ends_1 D R (keepE e [1, 2, 0, 7]) H) (impl_matcher_ends_p R))))
def J_impl_matcher_ends_3 (D : Den) (R : V → AH → Prop) (K1 : Env → AH → Prop) (env : Env) (H : AH) : Prop := D (cAt [1, 1, 0, 1, 0, 0, 1, 1] impl_matcher_ends_b) [(0, [1, 2, 0, 7])] [7, 18, 17, 0, 2, 1, 16] env H (seqQ (fun e H => K1 (keepE e [7, 18, 17, 0, 2, 1, 16]) H) (blockQ 0 (seqQ (fun e H => J_impl_matcher_ends_1 D R (keepE e [1, 2, 0, 7]) H) (impl_matcher_ends_p R))))
def J_impl_matcher_ends_4 (D : Den) (R : V → AH → Prop) (K1 : Env → AH → Prop) (env : Env) (H : AH) : Prop := D (cAt [1, 1, 0, 1, 0, 0, 1, 1, 1] impl_matcher_ends_b) [(0, [1, 2, 0, 7])] [7, 18, 17, 0, 2, 1, 16] env H (seqQ (fun e H => K1 (keepE e [7, 18, 17, 0, 2, 1, 16]) H) (blockQ 0 (seqQ (fun e H => J_impl_matcher_ends_1 D R (keepE e [1, 2, 0, 7]) H) (impl_matcher_ends_p R))))
def J_impl_matcher_ends_5 (D : Den) (R : V → AH → Prop) (env : Env) (H : AH) : Prop := D (cAt [1, 1, 1, 1, 1] impl_matcher_ends_b) [] [] env H (impl_matcher_ends_p R)
theorem impl_matcher_ends_in {args : List V} {H : AH} {R : V → AH → Prop} (h : ∀ D, IsD 61 [6] D → D impl_matcher_ends_b [] [] (argEnv 0 args) H (impl_matcher_ends_p R)) (hn : args.length ≤ 61 := by exact of_decide_eq_true rfl) : CallsA prog impl_matcher_ends args H R := callsD_of Go.Proofs.Tryd.func25 (by kernel_rfl) (by kernel_rfl) (by kernel_rfl) (enters_of Go.Proofs.Tryd.func25 (by kernel_rfl) rfl) hn h
theorem impl_matcher_ends_eq (hD : IsD 61 [6] D) {m_b0 m_i0 : Nat} {place0 : Int} {from_b0 from_i0 from_n0 : Nat} {from_c0 : Cap} {H0 : AH} : D impl_matcher_ends_b [] [] (argEnv 0 [V.ptr m_b0 m_i0, V.int IntKind.i64 place0, V.sl from_b0 from_i0 from_n0 from_c0]) H0 (impl_matcher_ends_p R) = (
  CallsA prog strconv_FormatInt [V.int IntKind.i64 place0, V.int IntKind.i64 10] H0 fun v0 H1 =>
  asStr v0 fun s0 =>
    catOk s0.length 1 ∧
      LoopI (L_impl_matcher_ends_2 D R)
        [(7, V.sl (List.length H1) 0 (s0 ++ [32]).length (Cap.toEnd 1)), (18, V.int IntKind.i64 0), (17, V.int IntKind.i64 (↑from_n0 : Int)), (0, V.ptr m_b0 m_i0),
          (2, V.sl from_b0 from_i0 from_n0 from_c0), (1, V.int IntKind.i64 place0), (16, V.sl from_b0 from_i0 from_n0 from_c0)]
        (H1 ++ [Blk.cells (List.map byteV (s0 ++ [32])) false])) := (hD _ _ _ _ _ _).trans (by kernel_rfl)
theorem L_impl_matcher_ends_2_eq (hD : IsD 61 [6] D) {key_b0 key_i0 key_n0 : Nat} {key_c0 : Cap} {x180 x170 : Int} {m_b0 m_i0 from_b0 from_i0 from_n0 : Nat} {from_c0 : Cap} {place0 : Int} {x16_b0 x16_i0 x16_n0 : Nat} {x16_c0 : Cap} {H0 : AH} : L_impl_matcher_ends_2 D R [(7, V.sl key_b0 key_i0 key_n0 key_c0), (18, V.int IntKind.i64 x180), (17, V.int IntKind.i64 x170), (0, V.ptr m_b0 m_i0), (2, V.sl from_b0 from_i0 from_n0 from_c0), (1, V.int IntKind.i64 place0),
  (16, V.sl x16_b0 x16_i0 x16_n0 x16_c0)] H0 K1 = (
  splitB (decide (x180 < x170))
  (J_impl_matcher_ends_3 D R K1
    [(7, V.sl key_b0 key_i0 key_n0 key_c0), (18, V.int IntKind.i64 x180), (17, V.int IntKind.i64 x170), (0, V.ptr m_b0 m_i0), (2, V.sl from_b0 from_i0 from_n0 from_c0), (1, V.int IntKind.i64 place0),
      (16, V.sl x16_b0 x16_i0 x16_n0 x16_c0)]
    H0)
  (J_impl_matcher_ends_1 D R [(1, V.int IntKind.i64 place0), (2, V.sl from_b0 from_i0 from_n0 from_c0), (0, V.ptr m_b0 m_i0), (7, V.sl key_b0 key_i0 key_n0 key_c0)] H0)) := (hD _ _ _ _ _ _).trans (by kernel_rfl)
theorem J_impl_matcher_ends_3_eq (hD : IsD 61 [6] D) {key_b0 key_i0 key_n0 : Nat} {key_c0 : Cap} {x180 x170 : Int} {m_b0 m_i0 from_b0 from_i0 from_n0 : Nat} {from_c0 : Cap} {place0 : Int} {x16_b0 x16_i0 x16_n0 : Nat} {x16_c0 : Cap} {H0 : AH} : J_impl_matcher_ends_3 D R K1 [(7, V.sl key_b0 key_i0 key_n0 key_c0), (18, V.int IntKind.i64 x180), (17, V.int IntKind.i64 x170), (0, V.ptr m_b0 m_i0), (2, V.sl from_b0 from_i0 from_n0 from_c0), (1, V.int IntKind.i64 place0),
  (16, V.sl x16_b0 x16_i0 x16_n0 x16_c0)] H0 = (
  inB x180 x16_n0 ∧
  ld H0 x16_b0 (x16_i0 + x180.toNat * 1) fun v0 =>
    asBool v0 fun t0 =>
      splitB t0
        (cellsK (H0 ++ [Blk.cells [V.int IntKind.u8 44] false]) (List.length H0) 0 1 fun l0 =>
          app (H0 ++ [Blk.cells [V.int IntKind.u8 44] false]) 1 1 key_b0 key_i0 key_n0 key_c0 1 l0 fun b0 i0 n0 c0 H1 =>
            CallsA prog strconv_AppendInt [V.sl b0 i0 n0 c0, V.int IntKind.i64 x180, V.int IntKind.i64 10] H1 fun v1 H2 =>
              asSl v1 fun b1 i1 n1 c1 =>
                J_impl_matcher_ends_4 D R K1
                  [(18, V.int IntKind.i64 x180), (7, V.sl b1 i1 n1 c1), (17, V.int IntKind.i64 x170), (0, V.ptr m_b0 m_i0), (2, V.sl from_b0 from_i0 from_n0 from_c0), (1, V.int IntKind.i64 place0),
                    (16, V.sl x16_b0 x16_i0 x16_n0 x16_c0)]
                  H2)
        (J_impl_matcher_ends_4 D R K1
          [(18, V.int IntKind.i64 x180), (7, V.sl key_b0 key_i0 key_n0 key_c0), (17, V.int IntKind.i64 x170), (0, V.ptr m_b0 m_i0), (2, V.sl from_b0 from_i0 from_n0 from_c0),
            (1, V.int IntKind.i64 place0), (16, V.sl x16_b0 x16_i0 x16_n0 x16_c0)]
          H0)) := (hD _ _ _ _ _ _).trans (by kernel_rfl)
theorem J_impl_matcher_ends_1_eq (hD : IsD 61 [6] D) {place0 : Int} {from_b0 from_i0 from_n0 : Nat} {from_c0 : Cap} {m_b0 m_i0 key_b0 key_i0 key_n0 : Nat} {key_c0 : Cap} {H0 : AH} : J_impl_matcher_ends_1 D R [(1, V.int IntKind.i64 place0), (2, V.sl from_b0 from_i0 from_n0 from_c0), (0, V.ptr m_b0 m_i0), (7, V.sl key_b0 key_i0 key_n0 key_c0)] H0 = (
  ld H0 m_b0 (m_i0 + 2) fun v0 =>
  asMap v0 fun b0 =>
    strK H0 key_b0 key_i0 key_n0 fun s0 =>
      lkK H0 b0 (V.str s0) (fun v1 => asSl v1 fun b1 i0 n0 c0 => J_impl_matcher_ends_5 D R [(10, V.sl b1 i0 n0 c0)] H0)
        (ld H0 m_b0 m_i0 fun v2 =>
          asSl v2 fun b2 i1 n1 c1 =>
            inB place0 n1 ∧
              ld H0 b2 (i1 + place0.toNat * 5 + 0) fun v3 =>
                asInt IntKind.i64 v3 fun n2 =>
                  ld H0 b2 (i1 + place0.toNat * 5 + 1) fun v4 =>
                    asSl v4 fun b3 i2 n3 c2 =>
                      ld H0 b2 (i1 + place0.toNat * 5 + 2) fun v5 =>
                        asSl v5 fun b4 i3 n4 c3 =>
                          ld H0 b2 (i1 + place0.toNat * 5 + 3) fun v6 =>
                            asInt IntKind.i64 v6 fun n5 =>
                              ld H0 b2 (i1 + place0.toNat * 5 + 4) fun v7 =>
                                asInt IntKind.i64 v7 fun n6 =>
                                  CallsA prog 46
                                    [V.ptr m_b0 m_i0, V.agg [V.int IntKind.i64 n2, V.sl b3 i2 n3 c2, V.sl b4 i3 n4 c3, V.int IntKind.i64 n5, V.int IntKind.i64 n6],
                                      V.sl from_b0 from_i0 from_n0 from_c0]
                                    H0 fun v8 H1 =>
                                    asSl v8 fun b5 i4 n7 c4 =>
                                      ld H1 m_b0 (m_i0 + 2) fun v9 =>
                                        asMap v9 fun b6 =>
                                          strK H1 key_b0 key_i0 key_n0 fun s1 =>
                                            mpK H1 b6 (V.str s1) (V.sl b5 i4 n7 c4) fun H2 => J_impl_matcher_ends_5 D R [(10, V.sl b5 i4 n7 c4)] H2)) := (hD _ _ _ _ _ _).trans (by kernel_rfl)
theorem J_impl_matcher_ends_4_eq (hD : IsD 61 [6] D) {x180 : Int} {key_b0 key_i0 key_n0 : Nat} {key_c0 : Cap} {x170 : Int} {m_b0 m_i0 from_b0 from_i0 from_n0 : Nat} {from_c0 : Cap} {place0 : Int} {x16_b0 x16_i0 x16_n0 : Nat} {x16_c0 : Cap} {H0 : AH} : J_impl_matcher_ends_4 D R K1 [(18, V.int IntKind.i64 x180), (7, V.sl key_b0 key_i0 key_n0 key_c0), (17, V.int IntKind.i64 x170), (0, V.ptr m_b0 m_i0), (2, V.sl from_b0 from_i0 from_n0 from_c0), (1, V.int IntKind.i64 place0),
  (16, V.sl x16_b0 x16_i0 x16_n0 x16_c0)] H0 = (
  K1
  [(7, V.sl key_b0 key_i0 key_n0 key_c0), (18, V.int IntKind.i64 (IntKind.i64.wrap (x180 + 1))), (17, V.int IntKind.i64 x170), (0, V.ptr m_b0 m_i0), (2, V.sl from_b0 from_i0 from_n0 from_c0),
    (1, V.int IntKind.i64 place0), (16, V.sl x16_b0 x16_i0 x16_n0 x16_c0)]
  H0) := (hD _ _ _ _ _ _).trans (by kernel_rfl)
theorem J_impl_matcher_ends_5_eq (hD : IsD 61 [6] D) {out_b0 out_i0 out_n0 : Nat} {out_c0 : Cap} {H0 : AH} : J_impl_matcher_ends_5 D R [(10, V.sl out_b0 out_i0 out_n0 out_c0)] H0 = (
  R (V.sl out_b0 out_i0 out_n0 out_c0) H0) := (hD _ _ _ _ _ _).trans (by kernel_rfl)

/-! ### impl_EndsAt -/
noncomputable def impl_EndsAt_b : Code := (Go.Proofs.Tryd.f7.body).getD .skip
noncomputable abbrev impl_EndsAt_p (R : V → AH → Prop) : APost := postK prog (Go.Proofs.Tryd.f7.results.toList) R
def J_impl_EndsAt_1 (D : Den) (R : V → AH → Prop) (env : Env) (H : AH) : Prop := D (cAt [1, 1] impl_EndsAt_b) [] [] env H (impl_EndsAt_p R)
def J_impl_EndsAt_2 (D : Den) (R : V → AH → Prop) (env : Env) (H : AH) : Prop := D (cAt [1, 0, 1] impl_EndsAt_b) [] [2, 1, 3] env H (seqQ (fun e H => J_impl_EndsAt_1 D R (keepE e [2, 1, 3]) H) (impl_EndsAt_p R))
def J_impl_EndsAt_3 (D : Den) (R : V → AH → Prop) (env : Env) (H : AH) : Prop := D (cAt [1, 1, 1, 1, 1, 1] impl_EndsAt_b) [] [] env H (impl_EndsAt_p R)
def L_impl_EndsAt_4 (D : Den) (R : V → AH → Prop) (env : Env) (H : AH) (K1 : Env → AH → Prop) : Prop := D (cAt [1, 1, 1, 1, 1, 0, 1, 0, 0] impl_EndsAt_b) [(0, [8])] [8, 46, 45, 44] env H (seqQ (fun e H => K1 (keepE e [8, 46, 45, 44]) H) (blockQ 0 (seqQ (fun e H => J_impl_EndsAt_3 D R (keepE e [8]) H) (impl_EndsAt_p R))))
def J_impl_EndsAt_5 (D : Den) (R : V → AH → Prop) (K1 : Env → AH → Prop) (env : Env) (H : AH) : Prop := D (cAt [1, 1, 1, 1, 1, 0, 1, 0, 0, 1, 1] impl_EndsAt_b) [(0, [8])] [8, 46, 45, 44] env H (seqQ (fun e H => K1 (keepE e [8, 46, 45, 44]) H) (blockQ 0 (seqQ (fun e H => J_impl_EndsAt_3 D R (keepE e [8]) H) (impl_EndsAt_p R))))
def J_impl_EndsAt_6 (D : Den) (R : V → AH → Prop) (K1 : Env → AH → Prop) (env : Env) (H : AH) : Prop := D (cAt [1, 1, 1, 1, 1, 0, 1, 0, 0, 1, 1, 1] impl_EndsAt_b) [(0, [8])] [8, 46, 45, 44] env H (seqQ (fun e H => K1 (keepE e [8, 46, 45, 44]) H) (blockQ 0 (seqQ (fun e H => J_impl_EndsAt_3 D R (keepE e [8]) H) (impl_EndsAt_p R))))
theorem impl_EndsAt_in {args : List V} {H : AH} {R : V → AH → Prop} (h : ∀ D, IsD 58 [6] D → D impl_EndsAt_b [] [] (argEnv 0 args) H (impl_EndsAt_p R)) (hn : args.length ≤ 58 := by exact of_decide_eq_true rfl) : CallsA prog impl_EndsAt args H R := callsD_of Go.Proofs.Tryd.func7 (by kernel_rfl) (by kernel_rfl) (by kernel_rfl) (enters_of Go.Proofs.Tryd.func7 (by kernel_rfl) rfl) hn h
theorem impl_EndsAt_eq (hD : IsD 58 [6] D) {x_b0 x_i0 x_n0 : Nat} {x_c0 : Cap} {text0 : List UInt8} {at0 : Int} {H0 : AH} : D impl_EndsAt_b [] [] (argEnv 0 [V.agg [V.sl x_b0 x_i0 x_n0 x_c0], V.str text0, V.int IntKind.i64 at0]) H0 (impl_EndsAt_p R) = (
  ld (H0 ++ [Blk.cells [V.sl x_b0 x_i0 x_n0 x_c0] false]) (List.length H0) 0 fun v0 =>
  asSl v0 fun b0 i0 n0 c0 =>
    CallsA prog impl_RxOk [V.agg [V.sl b0 i0 n0 c0]] (H0 ++ [Blk.cells [V.sl x_b0 x_i0 x_n0 x_c0] false]) fun v1 H1 =>
      asBool v1 fun t0 =>
        splitB (!t0) (J_impl_EndsAt_2 D R [(26, V.bool true), (3, V.ptr (List.length H0) 0), (1, V.str text0), (2, V.int IntKind.i64 at0)] H1)
          (splitB (decide ((↑text0.length : Int) > 300)) (J_impl_EndsAt_2 D R [(26, V.bool true), (3, V.ptr (List.length H0) 0), (1, V.str text0), (2, V.int IntKind.i64 at0)] H1)
            (CallsA prog impl_length [V.str text0] H1 fun v2 H2 =>
              asInt IntKind.i64 v2 fun n1 =>
                CallsA prog impl_within [V.int IntKind.i64 at0, V.int IntKind.i64 0, V.int IntKind.i64 n1] H2 fun v3 H3 =>
                  asBool v3 fun t1 => J_impl_EndsAt_2 D R [(26, V.bool !t1), (3, V.ptr (List.length H0) 0), (1, V.str text0), (2, V.int IntKind.i64 at0)] H3))) := (hD _ _ _ _ _ _).trans (by kernel_rfl)
theorem J_impl_EndsAt_2_eq (hD : IsD 58 [6] D) {x260 : Bool} {x_b0 x_i0 : Nat} {text0 : List UInt8} {at0 : Int} {H0 : AH} : J_impl_EndsAt_2 D R [(26, V.bool x260), (3, V.ptr x_b0 x_i0), (1, V.str text0), (2, V.int IntKind.i64 at0)] H0 = (
  splitB x260 (R (V.sl 0 0 0 Cap.nil) H0) (J_impl_EndsAt_1 D R [(2, V.int IntKind.i64 at0), (1, V.str text0), (3, V.ptr x_b0 x_i0)] H0)) := (hD _ _ _ _ _ _).trans (by kernel_rfl)
theorem J_impl_EndsAt_1_eq (hD : IsD 58 [6] D) {at0 : Int} {text0 : List UInt8} {x_b0 x_i0 : Nat} {H0 : AH} : J_impl_EndsAt_1 D R [(2, V.int IntKind.i64 at0), (1, V.str text0), (3, V.ptr x_b0 x_i0)] H0 = (
  mkOk (IntKind.i64.wrap ((↑text0.length : Int) + 1)) (IntKind.i64.wrap ((↑text0.length : Int) + 1)) 1 ∧
  inB at0 (IntKind.i64.wrap ((↑text0.length : Int) + 1)).toNat ∧
    stK (H0 ++ [Blk.cells (rep (IntKind.i64.wrap ((↑text0.length : Int) + 1)).toNat [V.bool false]) false] ++ [Blk.cells [] false]) (List.length H0) (0 + at0.toNat * 1) [V.bool true] fun H1 =>
      ld H1 x_b0 (x_i0 + 0) fun v0 =>
        asSl v0 fun b0 i0 n0 c0 =>
          ld (H1 ++ [Blk.mp []] ++ [Blk.cells [V.sl b0 i0 n0 c0, V.str text0, V.map (List.length H1)] false]) x_b0 (x_i0 + 0) fun v1 =>
            asSl v1 fun b1 i1 n1 c1 =>
              CallsA prog impl_Rx_last [V.agg [V.sl b1 i1 n1 c1]] (H1 ++ [Blk.mp []] ++ [Blk.cells [V.sl b0 i0 n0 c0, V.str text0, V.map (List.length H1)] false]) fun v2 H2 =>
                asInt IntKind.i64 v2 fun n2 =>
                  CallsA prog 25
                    [V.ptr (List.length (H1 ++ [Blk.mp []])) 0, V.int IntKind.i64 n2,
                      V.sl (List.length H0) 0 (IntKind.i64.wrap ((↑text0.length : Int) + 1)).toNat (Cap.ex (IntKind.i64.wrap ((↑text0.length : Int) + 1)).toNat)]
                    H2 fun v3 H3 =>
                    asSl v3 fun b2 i2 n3 c2 =>
                      LoopI (L_impl_EndsAt_4 D R)
                        [(8, V.sl (List.length (H0 ++ [Blk.cells (rep (IntKind.i64.wrap ((↑text0.length : Int) + 1)).toNat [V.bool false]) false])) 0 0 (Cap.ex 0)), (46, V.int IntKind.i64 0),
                          (45, V.int IntKind.i64 (↑n3 : Int)), (44, V.sl b2 i2 n3 c2)]
                        H3) := (hD _ _ _ _ _ _).trans (by kernel_rfl)
theorem L_impl_EndsAt_4_eq (hD : IsD 58 [6] D) {out_b0 out_i0 out_n0 : Nat} {out_c0 : Cap} {x460 x450 : Int} {x44_b0 x44_i0 x44_n0 : Nat} {x44_c0 : Cap} {H0 : AH} : L_impl_EndsAt_4 D R [(8, V.sl out_b0 out_i0 out_n0 out_c0), (46, V.int IntKind.i64 x460), (45, V.int IntKind.i64 x450), (44, V.sl x44_b0 x44_i0 x44_n0 x44_c0)] H0 K1 = (
  splitB (decide (x460 < x450))
  (J_impl_EndsAt_5 D R K1 [(8, V.sl out_b0 out_i0 out_n0 out_c0), (46, V.int IntKind.i64 x460), (45, V.int IntKind.i64 x450), (44, V.sl x44_b0 x44_i0 x44_n0 x44_c0)] H0)
  (J_impl_EndsAt_3 D R [(8, V.sl out_b0 out_i0 out_n0 out_c0)] H0)) := (hD _ _ _ _ _ _).trans (by kernel_rfl)
theorem J_impl_EndsAt_5_eq (hD : IsD 58 [6] D) {out_b0 out_i0 out_n0 : Nat} {out_c0 : Cap} {x460 x450 : Int} {x44_b0 x44_i0 x44_n0 : Nat} {x44_c0 : Cap} {H0 : AH} : J_impl_EndsAt_5 D R K1 [(8, V.sl out_b0 out_i0 out_n0 out_c0), (46, V.int IntKind.i64 x460), (45, V.int IntKind.i64 x450), (44, V.sl x44_b0 x44_i0 x44_n0 x44_c0)] H0 = (
  inB x460 x44_n0 ∧
  ld H0 x44_b0 (x44_i0 + x460.toNat * 1) fun v0 =>
    asBool v0 fun t0 =>
      splitB t0
        (cellsK (H0 ++ [Blk.cells [V.int IntKind.i64 x460] false]) (List.length H0) 0 1 fun l0 =>
          app (H0 ++ [Blk.cells [V.int IntKind.i64 x460] false]) 1 8 out_b0 out_i0 out_n0 out_c0 1 l0 fun b0 i0 n0 c0 H1 =>
            J_impl_EndsAt_6 D R K1 [(46, V.int IntKind.i64 x460), (8, V.sl b0 i0 n0 c0), (45, V.int IntKind.i64 x450), (44, V.sl x44_b0 x44_i0 x44_n0 x44_c0)] H1)
        (J_impl_EndsAt_6 D R K1 [(46, V.int IntKind.i64 x460), (8, V.sl out_b0 out_i0 out_n0 out_c0), (45, V.int IntKind.i64 x450), (44, V.sl x44_b0 x44_i0 x44_n0 x44_c0)] H0)) := (hD _ _ _ _ _ _).trans (by kernel_rfl)
theorem J_impl_EndsAt_3_eq (hD : IsD 58 [6] D) {out_b0 out_i0 out_n0 : Nat} {out_c0 : Cap} {H0 : AH} : J_impl_EndsAt_3 D R [(8, V.sl out_b0 out_i0 out_n0 out_c0)] H0 = (
  R (V.sl out_b0 out_i0 out_n0 out_c0) H0) := (hD _ _ _ _ _ _).trans (by kernel_rfl)
theorem J_impl_EndsAt_6_eq (hD : IsD 58 [6] D) {x460 : Int} {out_b0 out_i0 out_n0 : Nat} {out_c0 : Cap} {x450 : Int} {x44_b0 x44_i0 x44_n0 : Nat} {x44_c0 : Cap} {H0 : AH} : J_impl_EndsAt_6 D R K1 [(46, V.int IntKind.i64 x460), (8, V.sl out_b0 out_i0 out_n0 out_c0), (45, V.int IntKind.i64 x450), (44, V.sl x44_b0 x44_i0 x44_n0 x44_c0)] H0 = (
  K1 [(8, V.sl out_b0 out_i0 out_n0 out_c0), (46, V.int IntKind.i64 (IntKind.i64.wrap (x460 + 1))), (45, V.int IntKind.i64 x450), (44, V.sl x44_b0 x44_i0 x44_n0 x44_c0)] H0) := (hD _ _ _ _ _ _).trans (by kernel_rfl)

/-! ### impl_bytes256_class -/
noncomputable def impl_bytes256_class_b : Code := (Go.Proofs.Tryd.f68.body).getD .skip
noncomputable abbrev impl_bytes256_class_p (R : V → AH → Prop) : APost := postK prog (Go.Proofs.Tryd.f68.results.toList) R
def J_impl_bytes256_class_1 (D : Den) (R : V → AH → Prop) (env : Env) (H : AH) : Prop := D (cAt [1, 1, 1] impl_bytes256_class_b) [] [] env H (impl_bytes256_class_p R)
def L_impl_bytes256_class_2 (D : Den) (R : V → AH → Prop) (env : Env) (H : AH) (K1 : Env → AH → Prop) : Prop := D (cAt [1, 1, 0, 1, 0, 0] impl_bytes256_class_b) [(0, [3])] [7, 1, 3] env H (seqQ (fun e H => K1 (keepE e [7, 1, 3]) H) (blockQ 0 (seqQ (fun e H => J_impl_bytes256_class_1 D R (keepE e [3]) H) (impl_bytes256_class_p R))))
def J_impl_bytes256_class_3 (D : Den) (R : V → AH → Prop) (K1 : Env → AH → Prop) (env : Env) (H : AH) : Prop := D (cAt [1, 1, 0, 1, 0, 0, 1, 1] impl_bytes256_class_b) [(0, [3])] [7, 1, 3] env H (seqQ (fun e H => K1 (keepE e [7, 1, 3]) H) (blockQ 0 (seqQ (fun e H => J_impl_bytes256_class_1 D R (keepE e [3]) H) (impl_bytes256_class_p R))))
def J_impl_bytes256_class_4 (D : Den) (R : V → AH → Prop) (K1 : Env → AH → Prop) (env : Env) (H : AH) : Prop := D (cAt [1, 1, 0, 1, 0, 0, 1, 1, 1] impl_bytes256_class_b) [(0, [3])] [7, 1, 3] env H (seqQ (fun e H => K1 (keepE e [7, 1, 3]) H) (blockQ 0 (seqQ (fun e H => J_impl_bytes256_class_1 D R (keepE e [3]) H) (impl_bytes256_class_p R))))
def J_impl_bytes256_class_5 (D : Den) (R : V → AH → Prop) (K1 : Env → AH → Prop) (env : Env) (H : AH) : Prop := D (cAt [1, 1, 0, 1, 0, 0, 1, 1, 0, 0, 1, 1, 0, 1, 1, 1] impl_bytes256_class_b) [(2, [7, 1, 3]), (1, [7, 1, 3]), (0, [3])] [7, 1, 3] env H (blockQ 2 (blockQ 1 (seqQ (fun e H => J_impl_bytes256_class_4 D R K1 (keepE e [7, 1, 3]) H) (seqQ (fun e H => K1 (keepE e [7, 1, 3]) H) (blockQ 0 (seqQ (fun e H => J_impl_bytes256_class_1 D R (keepE e [3]) H) (impl_bytes256_class_p R)))))))
theorem impl_bytes256_class_in {args : List V} {H : AH} {R : V → AH → Prop} (h : ∀ D, IsD 44 [2] D → D impl_bytes256_class_b [] [] (argEnv 0 args) H (impl_bytes256_class_p R)) (hn : args.length ≤ 44 := by exact of_decide_eq_true rfl) : CallsA prog impl_bytes256_class args H R := callsD_of Go.Proofs.Tryd.func68 (by kernel_rfl) (by kernel_rfl) (by kernel_rfl) (enters_of Go.Proofs.Tryd.func68 (by kernel_rfl) rfl) hn h
theorem impl_bytes256_class_eq (hD : IsD 44 [2] D) {has0 : V} {H0 : AH} : D impl_bytes256_class_b [] [] (argEnv 0 [has0]) H0 (impl_bytes256_class_p R) = (
  obB (has0.cells.all V.one)
  (LoopI (L_impl_bytes256_class_2 D R) [(7, V.int IntKind.i64 0), (1, V.ptr (List.length H0) 0), (3, V.sl (List.length (H0 ++ [Blk.cells has0.cells false])) 0 0 (Cap.ex 0))]
    (H0 ++ [Blk.cells has0.cells false] ++ [Blk.cells [] false]))) := (hD _ _ _ _ _ _).trans (by kernel_rfl)
theorem L_impl_bytes256_class_2_eq (hD : IsD 44 [2] D) {x70 : Int} {has_b0 has_i0 out_b0 out_i0 out_n0 : Nat} {out_c0 : Cap} {H0 : AH} : L_impl_bytes256_class_2 D R [(7, V.int IntKind.i64 x70), (1, V.ptr has_b0 has_i0), (3, V.sl out_b0 out_i0 out_n0 out_c0)] H0 K1 = (
  splitB (decide (x70 < 256)) (J_impl_bytes256_class_3 D R K1 [(7, V.int IntKind.i64 x70), (1, V.ptr has_b0 has_i0), (3, V.sl out_b0 out_i0 out_n0 out_c0)] H0)
  (J_impl_bytes256_class_1 D R [(3, V.sl out_b0 out_i0 out_n0 out_c0)] H0)) := (hD _ _ _ _ _ _).trans (by kernel_rfl)
theorem J_impl_bytes256_class_3_eq (hD : IsD 44 [2] D) {x70 : Int} {has_b0 has_i0 out_b0 out_i0 out_n0 : Nat} {out_c0 : Cap} {H0 : AH} : J_impl_bytes256_class_3 D R K1 [(7, V.int IntKind.i64 x70), (1, V.ptr has_b0 has_i0), (3, V.sl out_b0 out_i0 out_n0 out_c0)] H0 = (
  inB x70 256 ∧
  ld H0 has_b0 (has_i0 + x70.toNat * 1) fun v0 =>
    asBool v0 fun t0 =>
      splitB (!t0) (J_impl_bytes256_class_4 D R K1 [(7, V.int IntKind.i64 x70), (1, V.ptr has_b0 has_i0), (3, V.sl out_b0 out_i0 out_n0 out_c0)] H0)
        (splitB (decide (IntKind.i64.wrap ((↑out_n0 : Int) - 1) ≥ 0))
          (inB (IntKind.i64.wrap ((↑out_n0 : Int) - 1)) out_n0 ∧
            ld H0 out_b0 (out_i0 + (IntKind.i64.wrap ((↑out_n0 : Int) - 1)).toNat * 2 + 1) fun v1 =>
              asInt IntKind.i64 v1 fun n0 =>
                J_impl_bytes256_class_5 D R K1
                  [(24, V.bool (n0 == IntKind.i64.wrap (x70 - 1))), (5, V.int IntKind.i64 (IntKind.i64.wrap ((↑out_n0 : Int) - 1))), (4, V.int IntKind.i64 x70), (7, V.int IntKind.i64 x70),
                    (1, V.ptr has_b0 has_i0), (3, V.sl out_b0 out_i0 out_n0 out_c0)]
                  H0)
          (J_impl_bytes256_class_5 D R K1
            [(24, V.bool false), (5, V.int IntKind.i64 (IntKind.i64.wrap ((↑out_n0 : Int) - 1))), (4, V.int IntKind.i64 x70), (7, V.int IntKind.i64 x70), (1, V.ptr has_b0 has_i0),
              (3, V.sl out_b0 out_i0 out_n0 out_c0)]
            H0))) := (hD _ _ _ _ _ _).trans (by kernel_rfl)
theorem J_impl_bytes256_class_1_eq (hD : IsD 44 [2] D) {out_b0 out_i0 out_n0 : Nat} {out_c0 : Cap} {H0 : AH} : J_impl_bytes256_class_1 D R [(3, V.sl out_b0 out_i0 out_n0 out_c0)] H0 = (
  R (V.sl out_b0 out_i0 out_n0 out_c0) H0) := (hD _ _ _ _ _ _).trans (by kernel_rfl)
theorem J_impl_bytes256_class_4_eq (hD : IsD 44 [2] D) {x70 : Int} {has_b0 has_i0 out_b0 out_i0 out_n0 : Nat} {out_c0 : Cap} {H0 : AH} : J_impl_bytes256_class_4 D R K1 [(7, V.int IntKind.i64 x70), (1, V.ptr has_b0 has_i0), (3, V.sl out_b0 out_i0 out_n0 out_c0)] H0 = (
  K1 [(7, V.int IntKind.i64 (IntKind.i64.wrap (x70 + 1))), (1, V.ptr has_b0 has_i0), (3, V.sl out_b0 out_i0 out_n0 out_c0)] H0) := (hD _ _ _ _ _ _).trans (by kernel_rfl)
theorem J_impl_bytes256_class_5_eq (hD : IsD 44 [2] D) {x240 : Bool} {last0 b0 x70 : Int} {has_b0 has_i0 out_b0 out_i0 out_n0 : Nat} {out_c0 : Cap} {H0 : AH} : J_impl_bytes256_class_5 D R K1 [(24, V.bool x240), (5, V.int IntKind.i64 last0), (4, V.int IntKind.i64 b0), (7, V.int IntKind.i64 x70), (1, V.ptr has_b0 has_i0), (3, V.sl out_b0 out_i0 out_n0 out_c0)] H0 = (
  splitB x240
  (inB last0 out_n0 ∧
    stK H0 out_b0 (out_i0 + last0.toNat * 2 + 1) [V.int IntKind.i64 b0] fun H1 =>
      J_impl_bytes256_class_4 D R K1 [(7, V.int IntKind.i64 x70), (1, V.ptr has_b0 has_i0), (3, V.sl out_b0 out_i0 out_n0 out_c0)] H1)
  (cellsK (H0 ++ [Blk.cells [V.int IntKind.i64 b0, V.int IntKind.i64 b0] false]) (List.length H0) 0 2 fun l0 =>
    app (H0 ++ [Blk.cells [V.int IntKind.i64 b0, V.int IntKind.i64 b0] false]) 2 16 out_b0 out_i0 out_n0 out_c0 1 l0 fun b1 i0 n0 c0 H2 =>
      J_impl_bytes256_class_4 D R K1 [(7, V.int IntKind.i64 x70), (1, V.ptr has_b0 has_i0), (3, V.sl b1 i0 n0 c0)] H2)) := (hD _ _ _ _ _ _).trans (by kernel_rfl)

/-! ### spec_ClassOk -/
noncomputable def spec_ClassOk_b : Code := (Go.Proofs.Tryd.f54.body).getD .skip
noncomputable abbrev spec_ClassOk_p (R : V → AH → Prop) : APost := postK prog (Go.Proofs.Tryd.f54.results.toList) R
def J_spec_ClassOk_1 (D : Den) (R : V → AH → Prop) (env : Env) (H : AH) : Prop := D (cAt [1, 1] spec_ClassOk_b) [] [] env H (spec_ClassOk_p R)
def J_spec_ClassOk_2 (D : Den) (R : V → AH → Prop) (env : Env) (H : AH) : Prop := D (cAt [1, 1, 1] spec_ClassOk_b) [] [] env H (spec_ClassOk_p R)
def L_spec_ClassOk_3 (D : Den) (R : V → AH → Prop) (env : Env) (H : AH) (K1 : Env → AH → Prop) : Prop := D (cAt [1, 1, 0, 1, 0, 0] spec_ClassOk_b) [(0, [])] [0, 3] env H (seqQ (fun e H => K1 (keepE e [0, 3]) H) (blockQ 0 (seqQ (fun e H => J_spec_ClassOk_2 D R (keepE e []) H) (spec_ClassOk_p R))))
def J_spec_ClassOk_4 (D : Den) (R : V → AH → Prop) (K1 : Env → AH → Prop) (env : Env) (H : AH) : Prop := D (cAt [1, 1, 0, 1, 0, 0, 1] spec_ClassOk_b) [(0, [])] [0, 3] env H (seqQ (fun e H => K1 (keepE e [0, 3]) H) (blockQ 0 (seqQ (fun e H => J_spec_ClassOk_2 D R (keepE e []) H) (spec_ClassOk_p R))))
def J_spec_ClassOk_5 (D : Den) (R : V → AH → Prop) (K1 : Env → AH → Prop) (env : Env) (H : AH) : Prop := D (cAt [1, 1, 0, 1, 0, 0, 1, 1] spec_ClassOk_b) [(0, [])] [0, 3] env H (seqQ (fun e H => K1 (keepE e [0, 3]) H) (blockQ 0 (seqQ (fun e H => J_spec_ClassOk_2 D R (keepE e []) H) (spec_ClassOk_p R))))
def J_spec_ClassOk_6 (D : Den) (R : V → AH → Prop) (K1 : Env → AH → Prop) (env : Env) (H : AH) : Prop := D (cAt [1, 1, 0, 1, 0, 0, 1, 0, 0, 1] spec_ClassOk_b) [(1, [3, 0]), (0, [])] [3, 0] env H (blockQ 1 (seqQ (fun e H => J_spec_ClassOk_5 D R K1 (keepE e [3, 0]) H) (seqQ (fun e H => K1 (keepE e [0, 3]) H) (blockQ 0 (seqQ (fun e H => J_spec_ClassOk_2 D R (keepE e []) H) (spec_ClassOk_p R))))))
theorem spec_ClassOk_in {args : List V} {H : AH} {R : V → AH → Prop} (h : ∀ D, IsD 53 [2] D → D spec_ClassOk_b [] [] (argEnv 0 args) H (spec_ClassOk_p R)) (hn : args.length ≤ 53 := by exact of_decide_eq_true rfl) : CallsA prog spec_ClassOk args H R := callsD_of Go.Proofs.Tryd.func54 (by kernel_rfl) (by kernel_rfl) (by kernel_rfl) (enters_of Go.Proofs.Tryd.func54 (by kernel_rfl) rfl) hn h
theorem spec_ClassOk_eq (hD : IsD 53 [2] D) {c_b0 c_i0 c_n0 : Nat} {c_c0 : Cap} {H0 : AH} : D spec_ClassOk_b [] [] (argEnv 0 [V.sl c_b0 c_i0 c_n0 c_c0]) H0 (spec_ClassOk_p R) = (
  splitB (decide ((↑c_n0 : Int) > 128)) (R (V.bool false) H0) (J_spec_ClassOk_1 D R [(0, V.sl c_b0 c_i0 c_n0 c_c0)] H0)) := (hD _ _ _ _ _ _).trans (by kernel_rfl)
theorem J_spec_ClassOk_1_eq (hD : IsD 53 [2] D) {c_b0 c_i0 c_n0 : Nat} {c_c0 : Cap} {H0 : AH} : J_spec_ClassOk_1 D R [(0, V.sl c_b0 c_i0 c_n0 c_c0)] H0 = (
  LoopI (L_spec_ClassOk_3 D R) [(0, V.sl c_b0 c_i0 c_n0 c_c0), (3, V.int IntKind.i64 0)] H0) := (hD _ _ _ _ _ _).trans (by kernel_rfl)
theorem L_spec_ClassOk_3_eq (hD : IsD 53 [2] D) {c_b0 c_i0 c_n0 : Nat} {c_c0 : Cap} {i0 : Int} {H0 : AH} : L_spec_ClassOk_3 D R [(0, V.sl c_b0 c_i0 c_n0 c_c0), (3, V.int IntKind.i64 i0)] H0 K1 = (
  splitB (decide (i0 < (↑c_n0 : Int))) (J_spec_ClassOk_4 D R K1 [(0, V.sl c_b0 c_i0 c_n0 c_c0), (3, V.int IntKind.i64 i0)] H0) (J_spec_ClassOk_2 D R [] H0)) := (hD _ _ _ _ _ _).trans (by kernel_rfl)
theorem J_spec_ClassOk_4_eq (hD : IsD 53 [2] D) {c_b0 c_i0 c_n0 : Nat} {c_c0 : Cap} {i0 : Int} {H0 : AH} : J_spec_ClassOk_4 D R K1 [(0, V.sl c_b0 c_i0 c_n0 c_c0), (3, V.int IntKind.i64 i0)] H0 = (
  inB i0 c_n0 ∧
  ld H0 c_b0 (c_i0 + i0.toNat * 2) fun v0 =>
    asInt IntKind.i64 v0 fun n0 =>
      CallsA prog spec_l1In [V.int IntKind.i64 n0, V.int IntKind.i64 0, V.int IntKind.i64 255] H0 fun v1 H1 =>
        asBool v1 fun t0 =>
          splitB (!t0) (J_spec_ClassOk_6 D R K1 [(52, V.bool true), (0, V.sl c_b0 c_i0 c_n0 c_c0), (3, V.int IntKind.i64 i0)] H1)
            (inB i0 c_n0 ∧
              ld H1 c_b0 (c_i0 + i0.toNat * 2 + 1) fun v2 =>
                asInt IntKind.i64 v2 fun n1 =>
                  inB i0 c_n0 ∧
                    ld H1 c_b0 (c_i0 + i0.toNat * 2) fun v3 =>
                      asInt IntKind.i64 v3 fun n2 =>
                        CallsA prog spec_l1In [V.int IntKind.i64 n1, V.int IntKind.i64 n2, V.int IntKind.i64 255] H1 fun v4 H2 =>
                          asBool v4 fun t1 =>
                            splitB (!t1) (J_spec_ClassOk_6 D R K1 [(52, V.bool true), (0, V.sl c_b0 c_i0 c_n0 c_c0), (3, V.int IntKind.i64 i0)] H2)
                              (splitB (decide (i0 > 0))
                                (inB i0 c_n0 ∧
                                  ld H2 c_b0 (c_i0 + i0.toNat * 2) fun v5 =>
                                    asInt IntKind.i64 v5 fun n3 =>
                                      inB (IntKind.i64.wrap (i0 - 1)) c_n0 ∧
                                        ld H2 c_b0 (c_i0 + (IntKind.i64.wrap (i0 - 1)).toNat * 2 + 1) fun v6 =>
                                          asInt IntKind.i64 v6 fun n4 =>
                                            J_spec_ClassOk_6 D R K1 [(52, V.bool (decide (n3 < IntKind.i64.wrap (n4 + 2)))), (0, V.sl c_b0 c_i0 c_n0 c_c0), (3, V.int IntKind.i64 i0)] H2)
                                (J_spec_ClassOk_6 D R K1 [(52, V.bool false), (0, V.sl c_b0 c_i0 c_n0 c_c0), (3, V.int IntKind.i64 i0)] H2)))) := (hD _ _ _ _ _ _).trans (by kernel_rfl)
theorem J_spec_ClassOk_2_eq (hD : IsD 53 [2] D) {H0 : AH} : J_spec_ClassOk_2 D R [] H0 = (
  R (V.bool true) H0) := (hD _ _ _ _ _ _).trans (by kernel_rfl)
theorem J_spec_ClassOk_6_eq (hD : IsD 53 [2] D) {x520 : Bool} {c_b0 c_i0 c_n0 : Nat} {c_c0 : Cap} {i0 : Int} {H0 : AH} : J_spec_ClassOk_6 D R K1 [(52, V.bool x520), (0, V.sl c_b0 c_i0 c_n0 c_c0), (3, V.int IntKind.i64 i0)] H0 = (
  splitB x520 (R (V.bool false) H0) (J_spec_ClassOk_5 D R K1 [(3, V.int IntKind.i64 i0), (0, V.sl c_b0 c_i0 c_n0 c_c0)] H0)) := (hD _ _ _ _ _ _).trans (by kernel_rfl)
theorem J_spec_ClassOk_5_eq (hD : IsD 53 [2] D) {i0 : Int} {c_b0 c_i0 c_n0 : Nat} {c_c0 : Cap} {H0 : AH} : J_spec_ClassOk_5 D R K1 [(3, V.int IntKind.i64 i0), (0, V.sl c_b0 c_i0 c_n0 c_c0)] H0 = (
  K1 [(0, V.sl c_b0 c_i0 c_n0 c_c0), (3, V.int IntKind.i64 (IntKind.i64.wrap (i0 + 1)))] H0) := (hD _ _ _ _ _ _).trans (by kernel_rfl)

/-! ### spec_l1Rd_text -/
noncomputable def spec_l1Rd_text_b : Code := (Go.Proofs.Tryd.f36.body).getD .skip
noncomputable abbrev spec_l1Rd_text_p (R : V → AH → Prop) : APost := postK prog (Go.Proofs.Tryd.f36.results.toList) R
def J_spec_l1Rd_text_1 (D : Den) (R : V → AH → Prop) (env : Env) (H : AH) : Prop := D (cAt [1, 1, 1] spec_l1Rd_text_b) [] [] env H (spec_l1Rd_text_p R)
def L_spec_l1Rd_text_2 (D : Den) (R : V → AH → Prop) (env : Env) (H : AH) (K1 : Env → AH → Prop) : Prop := D (cAt [1, 1, 0, 1, 0, 0] spec_l1Rd_text_b) [(0, [5])] [5, 6, 0] env H (seqQ (fun e H => K1 (keepE e [5, 6, 0]) H) (blockQ 0 (seqQ (fun e H => J_spec_l1Rd_text_1 D R (keepE e [5]) H) (spec_l1Rd_text_p R))))
def J_spec_l1Rd_text_3 (D : Den) (R : V → AH → Prop) (K1 : Env → AH → Prop) (env : Env) (H : AH) : Prop := D (cAt [1, 1, 0, 1, 0, 0, 1] spec_l1Rd_text_b) [(0, [5])] [5, 6, 0] env H (seqQ (fun e H => K1 (keepE e [5, 6, 0]) H) (blockQ 0 (seqQ (fun e H => J_spec_l1Rd_text_1 D R (keepE e [5]) H) (spec_l1Rd_text_p R))))
def J_spec_l1Rd_text_4 (D : Den) (R : V → AH → Prop) (K1 : Env → AH → Prop) (env : Env) (H : AH) : Prop := D (cAt [1, 1, 0, 1, 0, 0, 1, 1] spec_l1Rd_text_b) [(0, [5])] [5, 6, 0] env H (seqQ (fun e H => K1 (keepE e [5, 6, 0]) H) (blockQ 0 (seqQ (fun e H => J_spec_l1Rd_text_1 D R (keepE e [5]) H) (spec_l1Rd_text_p R))))
theorem spec_l1Rd_text_in {args : List V} {H : AH} {R : V → AH → Prop} (h : ∀ D, IsD 32 [4] D → D spec_l1Rd_text_b [] [] (argEnv 0 args) H (spec_l1Rd_text_p R)) (hn : args.length ≤ 32 := by exact of_decide_eq_true rfl) : CallsA prog spec_l1Rd_text args H R := callsD_of Go.Proofs.Tryd.func36 (by kernel_rfl) (by kernel_rfl) (by kernel_rfl) (enters_of Go.Proofs.Tryd.func36 (by kernel_rfl) rfl) hn h
theorem spec_l1Rd_text_eq (hD : IsD 32 [4] D) {r_b0 r_i0 : Nat} {most0 : Int} {H0 : AH} : D spec_l1Rd_text_b [] [] (argEnv 0 [V.ptr r_b0 r_i0, V.int IntKind.i64 most0]) H0 (spec_l1Rd_text_p R) = (
  ld (H0 ++ [Blk.cells [] false]) r_b0 r_i0 fun v0 =>
  asSl v0 fun b0 i0 n0 c0 =>
    nz 3 ∧
      CallsA prog 17
        [V.ptr r_b0 r_i0,
          V.int IntKind.i64
            (IntKind.i64.wrap ((if IntKind.i64.wrap (2 + IntKind.i64.wrap ((↑n0 : Int).tdiv 3)) < most0 then IntKind.i64.wrap (2 + IntKind.i64.wrap ((↑n0 : Int).tdiv 3)) else most0) + 1))]
        (H0 ++ [Blk.cells [] false]) fun v1 H1 =>
        asInt IntKind.i64 v1 fun n1 => LoopI (L_spec_l1Rd_text_2 D R) [(5, V.sl (List.length H0) 0 0 (Cap.ex 0)), (6, V.int IntKind.i64 n1), (0, V.ptr r_b0 r_i0)] H1) := (hD _ _ _ _ _ _).trans (by kernel_rfl)
theorem L_spec_l1Rd_text_2_eq (hD : IsD 32 [4] D) {out_b0 out_i0 out_n0 : Nat} {out_c0 : Cap} {n0 : Int} {r_b0 r_i0 : Nat} {H0 : AH} : L_spec_l1Rd_text_2 D R [(5, V.sl out_b0 out_i0 out_n0 out_c0), (6, V.int IntKind.i64 n0), (0, V.ptr r_b0 r_i0)] H0 K1 = (
  splitB (decide (n0 > 0)) (J_spec_l1Rd_text_3 D R K1 [(5, V.sl out_b0 out_i0 out_n0 out_c0), (6, V.int IntKind.i64 n0), (0, V.ptr r_b0 r_i0)] H0)
  (J_spec_l1Rd_text_1 D R [(5, V.sl out_b0 out_i0 out_n0 out_c0)] H0)) := (hD _ _ _ _ _ _).trans (by kernel_rfl)
theorem J_spec_l1Rd_text_3_eq (hD : IsD 32 [4] D) {out_b0 out_i0 out_n0 : Nat} {out_c0 : Cap} {n0 : Int} {r_b0 r_i0 : Nat} {H0 : AH} : J_spec_l1Rd_text_3 D R K1 [(5, V.sl out_b0 out_i0 out_n0 out_c0), (6, V.int IntKind.i64 n0), (0, V.ptr r_b0 r_i0)] H0 = (
  CallsA prog spec_l1Rd_below [V.ptr r_b0 r_i0, V.int IntKind.i64 21] H0 fun v0 H1 =>
  asInt IntKind.i64 v0 fun n1 =>
    inB n1 21 ∧
      cellsK (H1 ++ [Blk.cells [V.int IntKind.u8 (↑(byteAt [97, 97, 97, 98, 98, 98, 99, 99, 97, 98, 99, 10, 120, 121, 122, 57, 45, 122, 65, 0, 255] n1).toNat : Int)] false]) (List.length H1) 0 1
        fun l0 =>
        app (H1 ++ [Blk.cells [V.int IntKind.u8 (↑(byteAt [97, 97, 97, 98, 98, 98, 99, 99, 97, 98, 99, 10, 120, 121, 122, 57, 45, 122, 65, 0, 255] n1).toNat : Int)] false]) 1 1 out_b0 out_i0 out_n0
          out_c0 1 l0 fun b0 i0 n2 c0 H2 => J_spec_l1Rd_text_4 D R K1 [(6, V.int IntKind.i64 n0), (5, V.sl b0 i0 n2 c0), (0, V.ptr r_b0 r_i0)] H2) := (hD _ _ _ _ _ _).trans (by kernel_rfl)
theorem J_spec_l1Rd_text_1_eq (hD : IsD 32 [4] D) {out_b0 out_i0 out_n0 : Nat} {out_c0 : Cap} {H0 : AH} : J_spec_l1Rd_text_1 D R [(5, V.sl out_b0 out_i0 out_n0 out_c0)] H0 = (
  strK H0 out_b0 out_i0 out_n0 fun s0 => R (V.str s0) H0) := (hD _ _ _ _ _ _).trans (by kernel_rfl)
theorem J_spec_l1Rd_text_4_eq (hD : IsD 32 [4] D) {n0 : Int} {out_b0 out_i0 out_n0 : Nat} {out_c0 : Cap} {r_b0 r_i0 : Nat} {H0 : AH} : J_spec_l1Rd_text_4 D R K1 [(6, V.int IntKind.i64 n0), (5, V.sl out_b0 out_i0 out_n0 out_c0), (0, V.ptr r_b0 r_i0)] H0 = (
  K1 [(5, V.sl out_b0 out_i0 out_n0 out_c0), (6, V.int IntKind.i64 (IntKind.i64.wrap (n0 - 1))), (0, V.ptr r_b0 r_i0)] H0) := (hD _ _ _ _ _ _).trans (by kernel_rfl)

/-! ### spec_DrawEndsAt -/
noncomputable def spec_DrawEndsAt_b : Code := (Go.Proofs.Tryd.f5.body).getD .skip
noncomputable abbrev spec_DrawEndsAt_p (R : V → AH → Prop) : APost := postK prog (Go.Proofs.Tryd.f5.results.toList) R
def J_spec_DrawEndsAt_1 (D : Den) (R : V → AH → Prop) (env : Env) (H : AH) : Prop := D (cAt [1, 1, 1, 1] spec_DrawEndsAt_b) [] [] env H (spec_DrawEndsAt_p R)
def J_spec_DrawEndsAt_2 (D : Den) (R : V → AH → Prop) (env : Env) (H : AH) : Prop := D (cAt [1, 1, 1, 1, 1] spec_DrawEndsAt_b) [] [] env H (spec_DrawEndsAt_p R)
theorem spec_DrawEndsAt_in {args : List V} {H : AH} {R : V → AH → Prop} (h : ∀ D, IsD 32 [2, 3, 4] D → D spec_DrawEndsAt_b [] [] (argEnv 0 args) H (spec_DrawEndsAt_p R)) (hn : args.length ≤ 32 := by exact of_decide_eq_true rfl) : CallsA prog spec_DrawEndsAt args H R := callsD_of Go.Proofs.Tryd.func5 (by kernel_rfl) (by kernel_rfl) (by kernel_rfl) (enters_of Go.Proofs.Tryd.func5 (by kernel_rfl) rfl) hn h
theorem spec_DrawEndsAt_eq (hD : IsD 32 [2, 3, 4] D) {code_b0 code_i0 code_n0 : Nat} {code_c0 : Cap} {H0 : AH} : D spec_DrawEndsAt_b [] [] (argEnv 0 [V.sl code_b0 code_i0 code_n0 code_c0]) H0 (spec_DrawEndsAt_p R) = (
  CallsA prog spec_l1Open [V.sl code_b0 code_i0 code_n0 code_c0] (H0 ++ [Blk.cells [V.sl 0 0 0 Cap.nil] false]) fun v0 H1 =>
  asPtr v0 fun b0 i0 =>
    CallsA prog spec_l4Case [V.ptr b0 i0] H1 fun v1 H2 =>
      asTup v1 fun l0 =>
        uncons l0 fun v2 l1 =>
          asAgg v2 fun l2 =>
            uncons l2 fun v3 l3 =>
              asSl v3 fun b1 i1 n0 c0 =>
                unnil l3
                  (uncons l1 fun v4 l4 =>
                    asStr v4 fun s0 =>
                      unnil l4
                        (stK (H2 ++ [Blk.cells [V.sl 0 0 0 Cap.nil] false]) (List.length H2) 0 [V.sl b1 i1 n0 c0] fun H3 =>
                          CallsA prog spec_l1Rd_once [V.ptr b0 i0, V.int IntKind.i64 40] H3 fun v5 H4 =>
                            asBool v5 fun t0 =>
                              splitB t0
                                (CallsA prog spec_l1Rd_below [V.ptr b0 i0, V.int IntKind.i64 2] H4 fun v6 H5 =>
                                  asInt IntKind.i64 v6 fun n1 =>
                                    mkOk (IntKind.i64.wrap (300 + n1)) (IntKind.i64.wrap (300 + n1)) 1 ∧
                                      strK (H5 ++ [Blk.cells (rep (IntKind.i64.wrap (300 + n1)).toNat [V.int IntKind.u8 0]) false]) (List.length H5) 0 (IntKind.i64.wrap (300 + n1)).toNat fun s1 =>
                                        J_spec_DrawEndsAt_1 D R [(5, V.ptr b0 i0), (6, V.ptr (List.length H2) 0), (7, V.str s1), (2, V.ptr (List.length H0) 0)]
                                          (H5 ++ [Blk.cells (rep (IntKind.i64.wrap (300 + n1)).toNat [V.int IntKind.u8 0]) false]))
                                (J_spec_DrawEndsAt_1 D R [(5, V.ptr b0 i0), (6, V.ptr (List.length H2) 0), (7, V.str s0), (2, V.ptr (List.length H0) 0)] H4)))) := (hD _ _ _ _ _ _).trans (by kernel_rfl)
theorem J_spec_DrawEndsAt_1_eq (hD : IsD 32 [2, 3, 4] D) {r_b0 r_i0 x_b0 x_i0 : Nat} {s0 : List UInt8} {x2_b0 x2_i0 : Nat} {H0 : AH} : J_spec_DrawEndsAt_1 D R [(5, V.ptr r_b0 r_i0), (6, V.ptr x_b0 x_i0), (7, V.str s0), (2, V.ptr x2_b0 x2_i0)] H0 = (
  CallsA prog spec_l1Rd_once [V.ptr r_b0 r_i0, V.int IntKind.i64 2] H0 fun v0 H1 =>
  asBool v0 fun t0 =>
    splitB t0
      (ld H1 x_b0 (x_i0 + 0) fun v1 =>
        asSl v1 fun b0 i0 n0 c0 =>
          stK H1 x2_b0 x2_i0 [V.sl b0 i0 n0 c0] fun H2 => ld H2 x2_b0 (x2_i0 + 0) fun v2 => asSl v2 fun b1 i1 n1 c1 => R (V.tup [V.agg [V.sl b1 i1 n1 c1], V.str s0, V.int IntKind.i64 0]) H2)
      (J_spec_DrawEndsAt_2 D R [(6, V.ptr x_b0 x_i0), (5, V.ptr r_b0 r_i0), (7, V.str s0), (2, V.ptr x2_b0 x2_i0)] H1)) := (hD _ _ _ _ _ _).trans (by kernel_rfl)
theorem J_spec_DrawEndsAt_2_eq (hD : IsD 32 [2, 3, 4] D) {x_b0 x_i0 r_b0 r_i0 : Nat} {s0 : List UInt8} {x2_b0 x2_i0 : Nat} {H0 : AH} : J_spec_DrawEndsAt_2 D R [(6, V.ptr x_b0 x_i0), (5, V.ptr r_b0 r_i0), (7, V.str s0), (2, V.ptr x2_b0 x2_i0)] H0 = (
  ld H0 x_b0 (x_i0 + 0) fun v0 =>
  asSl v0 fun b0 i0 n0 c0 =>
    CallsA prog spec_l1Rd_off [V.ptr r_b0 r_i0, V.int IntKind.i64 0, V.int IntKind.i64 (↑s0.length : Int)] H0 fun v1 H1 =>
      asInt IntKind.i64 v1 fun n1 =>
        (H1.cell x_b0 (x_i0 + 0) = some (V.sl b0 i0 n0 c0) ∧ True) ∧
          stK H1 x2_b0 x2_i0 [V.sl b0 i0 n0 c0] fun H2 => ld H2 x2_b0 (x2_i0 + 0) fun v2 => asSl v2 fun b1 i1 n2 c1 => R (V.tup [V.agg [V.sl b1 i1 n2 c1], V.str s0, V.int IntKind.i64 n1]) H2) := (hD _ _ _ _ _ _).trans (by kernel_rfl)

/-! ### math_bits_Len64 -/
noncomputable def math_bits_Len64_b : Code := (Go.Proofs.Tryd.f82.body).getD .skip
noncomputable abbrev math_bits_Len64_p (R : V → AH → Prop) : APost := postK prog (Go.Proofs.Tryd.f82.results.toList) R
def J_math_bits_Len64_1 (D : Den) (R : V → AH → Prop) (env : Env) (H : AH) : Prop := D (cAt [1, 1] math_bits_Len64_b) [] [] env H (math_bits_Len64_p R)
def J_math_bits_Len64_2 (D : Den) (R : V → AH → Prop) (env : Env) (H : AH) : Prop := D (cAt [1, 1, 1] math_bits_Len64_b) [] [] env H (math_bits_Len64_p R)
def J_math_bits_Len64_3 (D : Den) (R : V → AH → Prop) (env : Env) (H : AH) : Prop := D (cAt [1, 1, 1, 1] math_bits_Len64_b) [] [] env H (math_bits_Len64_p R)
theorem math_bits_Len64_in {args : List V} {H : AH} {R : V → AH → Prop} (h : ∀ D, IsD 25 [2] D → D math_bits_Len64_b [] [] (argEnv 0 args) H (math_bits_Len64_p R)) (hn : args.length ≤ 25 := by exact of_decide_eq_true rfl) : CallsA prog math_bits_Len64 args H R := callsD_of Go.Proofs.Tryd.func82 (by kernel_rfl) (by kernel_rfl) (by kernel_rfl) (enters_of Go.Proofs.Tryd.func82 (by kernel_rfl) rfl) hn h
theorem math_bits_Len64_eq (hD : IsD 25 [2] D) {x0 : Int} {H0 : AH} : D math_bits_Len64_b [] [] (argEnv 0 [V.int IntKind.u64 x0]) H0 (math_bits_Len64_p R) = (
  splitB (decide (x0 ≥ 4294967296)) (nn 32 ∧ J_math_bits_Len64_1 D R [(0, V.int IntKind.u64 (shrI IntKind.u64 x0 32)), (2, V.int IntKind.i64 32)] H0)
  (J_math_bits_Len64_1 D R [(0, V.int IntKind.u64 x0), (2, V.int IntKind.i64 0)] H0)) := (hD _ _ _ _ _ _).trans (by kernel_rfl)
theorem J_math_bits_Len64_1_eq (hD : IsD 25 [2] D) {x0 n0 : Int} {H0 : AH} : J_math_bits_Len64_1 D R [(0, V.int IntKind.u64 x0), (2, V.int IntKind.i64 n0)] H0 = (
  splitB (decide (x0 ≥ 65536)) (nn 16 ∧ J_math_bits_Len64_2 D R [(0, V.int IntKind.u64 (shrI IntKind.u64 x0 16)), (2, V.int IntKind.i64 (IntKind.i64.wrap (n0 + 16)))] H0)
  (J_math_bits_Len64_2 D R [(0, V.int IntKind.u64 x0), (2, V.int IntKind.i64 n0)] H0)) := (hD _ _ _ _ _ _).trans (by kernel_rfl)
theorem J_math_bits_Len64_2_eq (hD : IsD 25 [2] D) {x0 n0 : Int} {H0 : AH} : J_math_bits_Len64_2 D R [(0, V.int IntKind.u64 x0), (2, V.int IntKind.i64 n0)] H0 = (
  splitB (decide (x0 ≥ 256)) (nn 8 ∧ J_math_bits_Len64_3 D R [(2, V.int IntKind.i64 (IntKind.i64.wrap (n0 + 8))), (0, V.int IntKind.u64 (shrI IntKind.u64 x0 8))] H0)
  (J_math_bits_Len64_3 D R [(2, V.int IntKind.i64 n0), (0, V.int IntKind.u64 x0)] H0)) := (hD _ _ _ _ _ _).trans (by kernel_rfl)
theorem J_math_bits_Len64_3_eq (hD : IsD 25 [2] D) {n0 x0 : Int} {H0 : AH} : J_math_bits_Len64_3 D R [(2, V.int IntKind.i64 n0), (0, V.int IntKind.u64 x0)] H0 = (
  inB (IntKind.u8.wrap x0) 256 ∧
  R
    (V.int IntKind.i64
      (IntKind.i64.wrap
        (n0 +
          IntKind.i64.wrap
            (↑(byteAt
                    [0, 1, 2, 2, 3, 3, 3, 3, 4, 4, 4, 4, 4, 4, 4, 4, 5, 5, 5, 5, 5, 5, 5, 5, 5, 5, 5, 5, 5, 5, 5, 5, 6, 6, 6, 6, 6, 6, 6, 6, 6, 6, 6, 6, 6, 6, 6, 6, 6, 6, 6, 6, 6, 6, 6, 6, 6, 6, 6, 6,
                      6, 6, 6, 6, 7, 7, 7, 7, 7, 7, 7, 7, 7, 7, 7, 7, 7, 7, 7, 7, 7, 7, 7, 7, 7, 7, 7, 7, 7, 7, 7, 7, 7, 7, 7, 7, 7, 7, 7, 7, 7, 7, 7, 7, 7, 7, 7, 7, 7, 7, 7, 7, 7, 7, 7, 7, 7, 7, 7,
                      7, 7, 7, 7, 7, 7, 7, 7, 7, 8, 8, 8, 8, 8, 8, 8, 8, 8, 8, 8, 8, 8, 8, 8, 8, 8, 8, 8, 8, 8, 8, 8, 8, 8, 8, 8, 8, 8, 8, 8, 8, 8, 8, 8, 8, 8, 8, 8, 8, 8, 8, 8, 8, 8, 8, 8, 8, 8, 8,
                      8, 8, 8, 8, 8, 8, 8, 8, 8, 8, 8, 8, 8, 8, 8, 8, 8, 8, 8, 8, 8, 8, 8, 8, 8, 8, 8, 8, 8, 8, 8, 8, 8, 8, 8, 8, 8, 8, 8, 8, 8, 8, 8, 8, 8, 8, 8, 8, 8, 8, 8, 8, 8, 8, 8, 8, 8, 8, 8,
                      8, 8, 8, 8, 8, 8, 8, 8, 8, 8, 8, 8, 8, 8, 8, 8, 8, 8, 8]
                    (IntKind.u8.wrap x0)).toNat :
              Int))))
    H0) := (hD _ _ _ _ _ _).trans (by kernel_rfl)

/-! ### spec_l4Memo_ends -/
noncomputable def spec_l4Memo_ends_b : Code := (Go.Proofs.Tryd.f21.body).getD .skip
noncomputable abbrev spec_l4Memo_ends_p (R : V → AH → Prop) : APost := postK prog (Go.Proofs.Tryd.f21.results.toList) R
def J_spec_l4Memo_ends_1 (D : Den) (R : V → AH → Prop) (env : Env) (H : AH) : Prop := D (cAt [1, 1, 1] spec_l4Memo_ends_b) [] [] env H (spec_l4Memo_ends_p R)
theorem spec_l4Memo_ends_in {args : List V} {H : AH} {R : V → AH → Prop} (h : ∀ D, IsD 44 [6] D → D spec_l4Memo_ends_b [] [] (argEnv 0 args) H (spec_l4Memo_ends_p R)) (hn : args.length ≤ 44 := by exact of_decide_eq_true rfl) : CallsA prog spec_l4Memo_ends args H R := callsD_of Go.Proofs.Tryd.func21 (by kernel_rfl) (by kernel_rfl) (by kernel_rfl) (enters_of Go.Proofs.Tryd.func21 (by kernel_rfl) rfl) hn h
theorem spec_l4Memo_ends_eq (hD : IsD 44 [6] D) {m_b0 m_i0 : Nat} {at0 from0 : Int} {H0 : AH} : D spec_l4Memo_ends_b [] [] (argEnv 0 [V.ptr m_b0 m_i0, V.int IntKind.i64 at0, V.int IntKind.i64 from0]) H0 (spec_l4Memo_ends_p R) = (
  ld H0 m_b0 (m_i0 + 1) fun v0 =>
  asStr v0 fun s0 =>
    ld H0 m_b0 (m_i0 + 2) fun v1 =>
      asSl v1 fun b0 i0 n0 c0 =>
        inB (IntKind.i64.wrap (IntKind.i64.wrap (at0 * IntKind.i64.wrap ((↑s0.length : Int) + 1)) + from0)) n0 ∧
          ld H0 b0 (i0 + (IntKind.i64.wrap (IntKind.i64.wrap (at0 * IntKind.i64.wrap ((↑s0.length : Int) + 1)) + from0)).toNat * 1) fun v2 =>
            asSl v2 fun b1 i1 n1 c1 =>
              splitB ((↑n1 : Int) == 0)
                (ld H0 m_b0 (m_i0 + 2) fun v3 =>
                  asSl v3 fun b2 i2 n2 c2 =>
                    CallsA prog spec_l4Memo_find [V.ptr m_b0 m_i0, V.int IntKind.i64 at0, V.int IntKind.i64 from0] H0 fun v4 H1 =>
                      asSl v4 fun b3 i3 n3 c3 =>
                        H1.cell m_b0 (m_i0 + 2) = some (V.sl b2 i2 n2 c2) ∧
                          inB (IntKind.i64.wrap (IntKind.i64.wrap (at0 * IntKind.i64.wrap ((↑s0.length : Int) + 1)) + from0)) n2 ∧
                            stK H1 b2 (i2 + (IntKind.i64.wrap (IntKind.i64.wrap (at0 * IntKind.i64.wrap ((↑s0.length : Int) + 1)) + from0)).toNat * 1) [V.sl b3 i3 n3 c3] fun H2 =>
                              J_spec_l4Memo_ends_1 D R
                                [(0, V.ptr m_b0 m_i0), (7, V.int IntKind.i64 (IntKind.i64.wrap (IntKind.i64.wrap (at0 * IntKind.i64.wrap ((↑s0.length : Int) + 1)) + from0)))] H2)
                (J_spec_l4Memo_ends_1 D R
                  [(0, V.ptr m_b0 m_i0), (7, V.int IntKind.i64 (IntKind.i64.wrap (IntKind.i64.wrap (at0 * IntKind.i64.wrap ((↑s0.length : Int) + 1)) + from0)))] H0)) := (hD _ _ _ _ _ _).trans (by kernel_rfl)
theorem J_spec_l4Memo_ends_1_eq (hD : IsD 44 [6] D) {m_b0 m_i0 : Nat} {k0 : Int} {H0 : AH} : J_spec_l4Memo_ends_1 D R [(0, V.ptr m_b0 m_i0), (7, V.int IntKind.i64 k0)] H0 = (
  ld H0 m_b0 (m_i0 + 2) fun v0 => asSl v0 fun b0 i0 n0 c0 => inB k0 n0 ∧ ld H0 b0 (i0 + k0.toNat * 1) fun v1 => asSl v1 fun b1 i1 n1 c1 => R (V.sl b1 i1 n1 c1) H0) := (hD _ _ _ _ _ _).trans (by kernel_rfl)

/-! ### spec_l3Kids -/
noncomputable def spec_l3Kids_b : Code := (Go.Proofs.Tryd.f53.body).getD .skip
noncomputable abbrev spec_l3Kids_p (R : V → AH → Prop) : APost := postK prog (Go.Proofs.Tryd.f53.results.toList) R
def J_spec_l3Kids_1 (D : Den) (R : V → AH → Prop) (env : Env) (H : AH) : Prop := D (cAt [1, 1] spec_l3Kids_b) [] [] env H (spec_l3Kids_p R)
def J_spec_l3Kids_2 (D : Den) (R : V → AH → Prop) (env : Env) (H : AH) : Prop := D (cAt [1, 0, 1, 0, 1] spec_l3Kids_b) [(0, [])] [] env H (blockQ 0 (seqQ (fun e H => J_spec_l3Kids_1 D R (keepE e []) H) (spec_l3Kids_p R)))
def J_spec_l3Kids_3 (D : Den) (R : V → AH → Prop) (env : Env) (H : AH) : Prop := D (cAt [1, 0, 1, 0, 1, 1, 1] spec_l3Kids_b) [(0, [])] [] env H (blockQ 0 (seqQ (fun e H => J_spec_l3Kids_1 D R (keepE e []) H) (spec_l3Kids_p R)))
theorem spec_l3Kids_in {args : List V} {H : AH} {R : V → AH → Prop} (h : ∀ D, IsD 12 [2] D → D spec_l3Kids_b [] [] (argEnv 0 args) H (spec_l3Kids_p R)) (hn : args.length ≤ 12 := by exact of_decide_eq_true rfl) : CallsA prog spec_l3Kids args H R := callsD_of Go.Proofs.Tryd.func53 (by kernel_rfl) (by kernel_rfl) (by kernel_rfl) (enters_of Go.Proofs.Tryd.func53 (by kernel_rfl) rfl) hn h
theorem spec_l3Kids_eq (hD : IsD 12 [2] D) {op0 : Int} {H0 : AH} : D spec_l3Kids_b [] [] (argEnv 0 [V.int IntKind.i64 op0]) H0 (spec_l3Kids_p R) = (
  splitB (op0 == 3) (J_spec_l3Kids_2 D R [(4, V.bool (op0 == 3)), (3, V.int IntKind.i64 op0)] H0) (J_spec_l3Kids_2 D R [(4, V.bool (op0 == 4)), (3, V.int IntKind.i64 op0)] H0)) := (hD _ _ _ _ _ _).trans (by kernel_rfl)
theorem J_spec_l3Kids_2_eq (hD : IsD 12 [2] D) {x40 : Bool} {x30 : Int} {H0 : AH} : J_spec_l3Kids_2 D R [(4, V.bool x40), (3, V.int IntKind.i64 x30)] H0 = (
  splitB x40 (R (V.int IntKind.i64 2) H0)
  (splitB (x30 == 5) (J_spec_l3Kids_3 D R [(7, V.bool (x30 == 5))] H0)
    (splitB (x30 == 6) (J_spec_l3Kids_3 D R [(7, V.bool (x30 == 6))] H0)
      (splitB (x30 == 7) (J_spec_l3Kids_3 D R [(7, V.bool (x30 == 7))] H0) (J_spec_l3Kids_3 D R [(7, V.bool (x30 == 8))] H0))))) := (hD _ _ _ _ _ _).trans (by kernel_rfl)
theorem J_spec_l3Kids_3_eq (hD : IsD 12 [2] D) {x70 : Bool} {H0 : AH} : J_spec_l3Kids_3 D R [(7, V.bool x70)] H0 = (
  splitB x70 (R (V.int IntKind.i64 1) H0) (J_spec_l3Kids_1 D R [] H0)) := (hD _ _ _ _ _ _).trans (by kernel_rfl)
theorem J_spec_l3Kids_1_eq (hD : IsD 12 [2] D) {H0 : AH} : J_spec_l3Kids_1 D R [] H0 = (
  R (V.int IntKind.i64 0) H0) := (hD _ _ _ _ _ _).trans (by kernel_rfl)

/-! ### impl_FirstOf -/
noncomputable def impl_FirstOf_b : Code := (Go.Proofs.Tryd.f9.body).getD .skip
noncomputable abbrev impl_FirstOf_p (R : V → AH → Prop) : APost := postK prog (Go.Proofs.Tryd.f9.results.toList) R
def J_impl_FirstOf_1 (D : Den) (R : V → AH → Prop) (env : Env) (H : AH) : Prop := D (cAt [1, 1] impl_FirstOf_b) [] [] env H (impl_FirstOf_p R)
theorem impl_FirstOf_in {args : List V} {H : AH} {R : V → AH → Prop} (h : ∀ D, IsD 11 [2] D → D impl_FirstOf_b [] [] (argEnv 0 args) H (impl_FirstOf_p R)) (hn : args.length ≤ 11 := by exact of_decide_eq_true rfl) : CallsA prog impl_FirstOf args H R := callsD_of Go.Proofs.Tryd.func9 (by kernel_rfl) (by kernel_rfl) (by kernel_rfl) (enters_of Go.Proofs.Tryd.func9 (by kernel_rfl) rfl) hn h
theorem impl_FirstOf_eq (hD : IsD 11 [2] D) {x_b0 x_i0 x_n0 : Nat} {x_c0 : Cap} {H0 : AH} : D impl_FirstOf_b [] [] (argEnv 0 [V.agg [V.sl x_b0 x_i0 x_n0 x_c0]]) H0 (impl_FirstOf_p R) = (
  ld (H0 ++ [Blk.cells [V.sl x_b0 x_i0 x_n0 x_c0] false]) (List.length H0) 0 fun v0 =>
  asSl v0 fun b0 i0 n0 c0 =>
    CallsA prog impl_RxOk [V.agg [V.sl b0 i0 n0 c0]] (H0 ++ [Blk.cells [V.sl x_b0 x_i0 x_n0 x_c0] false]) fun v1 H1 =>
      asBool v1 fun t0 => splitB (!t0) (R (V.sl 0 0 0 Cap.nil) H1) (J_impl_FirstOf_1 D R [(1, V.ptr (List.length H0) 0)] H1)) := (hD _ _ _ _ _ _).trans (by kernel_rfl)
theorem J_impl_FirstOf_1_eq (hD : IsD 11 [2] D) {x_b0 x_i0 : Nat} {H0 : AH} : J_impl_FirstOf_1 D R [(1, V.ptr x_b0 x_i0)] H0 = (
  ld H0 x_b0 (x_i0 + 0) fun v0 =>
  asSl v0 fun b0 i0 n0 c0 =>
    ld H0 x_b0 (x_i0 + 0) fun v1 =>
      asSl v1 fun b1 i1 n1 c1 =>
        CallsA prog impl_Rx_last [V.agg [V.sl b1 i1 n1 c1]] H0 fun v2 H1 =>
          asInt IntKind.i64 v2 fun n2 =>
            (H1.cell x_b0 (x_i0 + 0) = some (V.sl b0 i0 n0 c0) ∧ True) ∧
              CallsA prog impl_Rx_first [V.agg [V.sl b0 i0 n0 c0], V.int IntKind.i64 n2] H1 fun v3 H2 =>
                asSl v3 fun b2 i2 n3 c2 => CallsA prog impl_Joined [V.sl b2 i2 n3 c2, V.sl 0 0 0 Cap.nil] H2 fun v4 H3 => asSl v4 fun b3 i3 n4 c3 => R (V.sl b3 i3 n4 c3) H3) := (hD _ _ _ _ _ _).trans (by kernel_rfl)

/-! ### impl_Longest -/
noncomputable def impl_Longest_b : Code := (Go.Proofs.Tryd.f13.body).getD .skip
noncomputable abbrev impl_Longest_p (R : V → AH → Prop) : APost := postK prog (Go.Proofs.Tryd.f13.results.toList) R
def J_impl_Longest_1 (D : Den) (R : V → AH → Prop) (env : Env) (H : AH) : Prop := D (cAt [1, 1, 1] impl_Longest_b) [] [] env H (impl_Longest_p R)
theorem impl_Longest_in {args : List V} {H : AH} {R : V → AH → Prop} (h : ∀ D, IsD 21 [6] D → D impl_Longest_b [] [] (argEnv 0 args) H (impl_Longest_p R)) (hn : args.length ≤ 21 := by exact of_decide_eq_true rfl) : CallsA prog impl_Longest args H R := callsD_of Go.Proofs.Tryd.func13 (by kernel_rfl) (by kernel_rfl) (by kernel_rfl) (enters_of Go.Proofs.Tryd.func13 (by kernel_rfl) rfl) hn h
theorem impl_Longest_eq (hD : IsD 21 [6] D) {x_b0 x_i0 x_n0 : Nat} {x_c0 : Cap} {text0 : List UInt8} {at0 : Int} {H0 : AH} : D impl_Longest_b [] [] (argEnv 0 [V.agg [V.sl x_b0 x_i0 x_n0 x_c0], V.str text0, V.int IntKind.i64 at0]) H0 (impl_Longest_p R) = (
  ld (H0 ++ [Blk.cells [V.sl x_b0 x_i0 x_n0 x_c0] false]) (List.length H0) 0 fun v0 =>
  asSl v0 fun b0 i0 n0 c0 =>
    CallsA prog impl_EndsAt [V.agg [V.sl b0 i0 n0 c0], V.str text0, V.int IntKind.i64 at0] (H0 ++ [Blk.cells [V.sl x_b0 x_i0 x_n0 x_c0] false]) fun v1 H1 =>
      asSl v1 fun b1 i1 n1 c1 => splitB ((↑n1 : Int) == 0) (R (V.int IntKind.i64 (-1)) H1) (J_impl_Longest_1 D R [(7, V.sl b1 i1 n1 c1)] H1)) := (hD _ _ _ _ _ _).trans (by kernel_rfl)
theorem J_impl_Longest_1_eq (hD : IsD 21 [6] D) {list_b0 list_i0 list_n0 : Nat} {list_c0 : Cap} {H0 : AH} : J_impl_Longest_1 D R [(7, V.sl list_b0 list_i0 list_n0 list_c0)] H0 = (
  inB (IntKind.i64.wrap ((↑list_n0 : Int) - 1)) list_n0 ∧
  ld H0 list_b0 (list_i0 + (IntKind.i64.wrap ((↑list_n0 : Int) - 1)).toNat * 1) fun v0 => asInt IntKind.i64 v0 fun n0 => R (V.int IntKind.i64 n0) H0) := (hD _ _ _ _ _ _).trans (by kernel_rfl)

/-! ### impl_ClassHas -/
noncomputable def impl_ClassHas_b : Code := (Go.Proofs.Tryd.f12.body).getD .skip
noncomputable abbrev impl_ClassHas_p (R : V → AH → Prop) : APost := postK prog (Go.Proofs.Tryd.f12.results.toList) R
def J_impl_ClassHas_1 (D : Den) (R : V → AH → Prop) (env : Env) (H : AH) : Prop := D (cAt [1, 1] impl_ClassHas_b) [] [] env H (impl_ClassHas_p R)
theorem impl_ClassHas_in {args : List V} {H : AH} {R : V → AH → Prop} (h : ∀ D, IsD 13 [4] D → D impl_ClassHas_b [] [] (argEnv 0 args) H (impl_ClassHas_p R)) (hn : args.length ≤ 13 := by exact of_decide_eq_true rfl) : CallsA prog impl_ClassHas args H R := callsD_of Go.Proofs.Tryd.func12 (by kernel_rfl) (by kernel_rfl) (by kernel_rfl) (enters_of Go.Proofs.Tryd.func12 (by kernel_rfl) rfl) hn h
theorem impl_ClassHas_eq (hD : IsD 13 [4] D) {c_b0 c_i0 c_n0 : Nat} {c_c0 : Cap} {b0 : Int} {H0 : AH} : D impl_ClassHas_b [] [] (argEnv 0 [V.sl c_b0 c_i0 c_n0 c_c0, V.int IntKind.u8 b0]) H0 (impl_ClassHas_p R) = (
  CallsA prog impl_ClassOk [V.sl c_b0 c_i0 c_n0 c_c0] H0 fun v0 H1 =>
  asBool v0 fun t0 =>
    splitB t0
      (CallsA prog impl_bytesOf [V.sl c_b0 c_i0 c_n0 c_c0] H1 fun v1 H2 =>
        asAgg v1 fun l0 => inB b0 256 ∧ getK l0 (b0.toNat * 1) fun v2 => asBool v2 fun t1 => J_impl_ClassHas_1 D R [(4, V.bool t1)] H2)
      (J_impl_ClassHas_1 D R [(4, V.bool false)] H1)) := (hD _ _ _ _ _ _).trans (by kernel_rfl)
theorem J_impl_ClassHas_1_eq (hD : IsD 13 [4] D) {x40 : Bool} {H0 : AH} : J_impl_ClassHas_1 D R [(4, V.bool x40)] H0 = (
  R (V.bool x40) H0) := (hD _ _ _ _ _ _).trans (by kernel_rfl)

/-! ### math_bits_TrailingZeros32 -/
noncomputable def math_bits_TrailingZeros32_b : Code := (Go.Proofs.Tryd.f87.body).getD .skip
noncomputable abbrev math_bits_TrailingZeros32_p (R : V → AH → Prop) : APost := postK prog (Go.Proofs.Tryd.f87.results.toList) R
def J_math_bits_TrailingZeros32_1 (D : Den) (R : V → AH → Prop) (env : Env) (H : AH) : Prop := D (cAt [1, 1] math_bits_TrailingZeros32_b) [] [] env H (math_bits_TrailingZeros32_p R)
theorem math_bits_TrailingZeros32_in {args : List V} {H : AH} {R : V → AH → Prop} (h : ∀ D, IsD 14 [2] D → D math_bits_TrailingZeros32_b [] [] (argEnv 0 args) H (math_bits_TrailingZeros32_p R)) (hn : args.length ≤ 14 := by exact of_decide_eq_true rfl) : CallsA prog math_bits_TrailingZeros32 args H R := callsD_of Go.Proofs.Tryd.func87 (by kernel_rfl) (by kernel_rfl) (by kernel_rfl) (enters_of Go.Proofs.Tryd.func87 (by kernel_rfl) rfl) hn h
theorem math_bits_TrailingZeros32_eq (hD : IsD 14 [2] D) {x0 : Int} {H0 : AH} : D math_bits_TrailingZeros32_b [] [] (argEnv 0 [V.int IntKind.u32 x0]) H0 (math_bits_TrailingZeros32_p R) = (
  splitB (x0 == 0) (R (V.int IntKind.i64 32) H0) (J_math_bits_TrailingZeros32_1 D R [(0, V.int IntKind.u32 x0)] H0)) := (hD _ _ _ _ _ _).trans (by kernel_rfl)
theorem J_math_bits_TrailingZeros32_1_eq (hD : IsD 14 [2] D) {x0 : Int} {H0 : AH} : J_math_bits_TrailingZeros32_1 D R [(0, V.int IntKind.u32 x0)] H0 = (
  nn 27 ∧ False) := (hD _ _ _ _ _ _).trans (by kernel_rfl)

/-! ### slices_ContainsFunc_int64_int64 -/
noncomputable def slices_ContainsFunc_int64_int64_b : Code := (Go.Proofs.Tryd.f60.body).getD .skip
noncomputable abbrev slices_ContainsFunc_int64_int64_p (R : V → AH → Prop) : APost := postK prog (Go.Proofs.Tryd.f60.results.toList) R
theorem slices_ContainsFunc_int64_int64_in {args : List V} {H : AH} {R : V → AH → Prop} (h : ∀ D, IsD 9 [4] D → D slices_ContainsFunc_int64_int64_b [] [] (argEnv 0 args) H (slices_ContainsFunc_int64_int64_p R)) (hn : args.length ≤ 9 := by exact of_decide_eq_true rfl) : CallsA prog slices_ContainsFunc_int64_int64 args H R := callsD_of Go.Proofs.Tryd.func60 (by kernel_rfl) (by kernel_rfl) (by kernel_rfl) (enters_of Go.Proofs.Tryd.func60 (by kernel_rfl) rfl) hn h
theorem slices_ContainsFunc_int64_int64_eq (hD : IsD 9 [4] D) {s_b0 s_i0 s_n0 : Nat} {s_c0 : Cap} {f_f0 : Nat} {f_a0 f_c0 : List V} {H0 : AH} : D slices_ContainsFunc_int64_int64_b [] [] (argEnv 0 [V.sl s_b0 s_i0 s_n0 s_c0, V.fn f_f0 f_a0 f_c0]) H0 (slices_ContainsFunc_int64_int64_p R) = (
  CallsA prog slices_IndexFunc_int64_int64 [V.sl s_b0 s_i0 s_n0 s_c0, V.fn f_f0 f_a0 f_c0] H0 fun v0 H1 => asInt IntKind.i64 v0 fun n0 => R (V.bool (decide (n0 ≥ 0))) H1) := (hD _ _ _ _ _ _).trans (by kernel_rfl)

/-! ### internal_strconv_numDigits -/
noncomputable def internal_strconv_numDigits_b : Code := (Go.Proofs.Tryd.f74.body).getD .skip
noncomputable abbrev internal_strconv_numDigits_p (R : V → AH → Prop) : APost := postK prog (Go.Proofs.Tryd.f74.results.toList) R
theorem internal_strconv_numDigits_in {args : List V} {H : AH} {R : V → AH → Prop} (h : ∀ D, IsD 15 [2] D → D internal_strconv_numDigits_b [] [] (argEnv 0 args) H (internal_strconv_numDigits_p R)) (hn : args.length ≤ 15 := by exact of_decide_eq_true rfl) : CallsA prog internal_strconv_numDigits args H R := callsD_of Go.Proofs.Tryd.func74 (by kernel_rfl) (by kernel_rfl) (by kernel_rfl) (enters_of Go.Proofs.Tryd.func74 (by kernel_rfl) rfl) hn h
theorem internal_strconv_numDigits_eq (hD : IsD 15 [2] D) {d0 : Int} {H0 : AH} : D internal_strconv_numDigits_b [] [] (argEnv 0 [V.int IntKind.u64 d0]) H0 (internal_strconv_numDigits_p R) = (
  CallsA prog math_bits_Len64 [V.int IntKind.u64 d0] H0 fun v0 H1 => asInt IntKind.i64 v0 fun n0 => CallsA prog internal_strconv_log10Pow2 [V.int IntKind.i64 n0] H1 fun v1 H2 => asInt IntKind.i64 v1 fun n1 => False) := (hD _ _ _ _ _ _).trans (by kernel_rfl)

/-! ### internal_strconv_log10Pow2 -/
noncomputable def internal_strconv_log10Pow2_b : Code := (Go.Proofs.Tryd.f81.body).getD .skip
noncomputable abbrev internal_strconv_log10Pow2_p (R : V → AH → Prop) : APost := postK prog (Go.Proofs.Tryd.f81.results.toList) R
theorem internal_strconv_log10Pow2_in {args : List V} {H : AH} {R : V → AH → Prop} (h : ∀ D, IsD 6 [2] D → D internal_strconv_log10Pow2_b [] [] (argEnv 0 args) H (internal_strconv_log10Pow2_p R)) (hn : args.length ≤ 6 := by exact of_decide_eq_true rfl) : CallsA prog internal_strconv_log10Pow2 args H R := callsD_of Go.Proofs.Tryd.func81 (by kernel_rfl) (by kernel_rfl) (by kernel_rfl) (enters_of Go.Proofs.Tryd.func81 (by kernel_rfl) rfl) hn h
theorem internal_strconv_log10Pow2_eq (hD : IsD 6 [2] D) {x0 : Int} {H0 : AH} : D internal_strconv_log10Pow2_b [] [] (argEnv 0 [V.int IntKind.i64 x0]) H0 (internal_strconv_log10Pow2_p R) = (
  nn 18 ∧ R (V.int IntKind.i64 (shrI IntKind.i64 (IntKind.i64.wrap (x0 * 78913)) 18)) H0) := (hD _ _ _ _ _ _).trans (by kernel_rfl)

/-! ### spec_l1Rd_once -/
noncomputable def spec_l1Rd_once_b : Code := (Go.Proofs.Tryd.f16.body).getD .skip
noncomputable abbrev spec_l1Rd_once_p (R : V → AH → Prop) : APost := postK prog (Go.Proofs.Tryd.f16.results.toList) R
theorem spec_l1Rd_once_in {args : List V} {H : AH} {R : V → AH → Prop} (h : ∀ D, IsD 11 [4] D → D spec_l1Rd_once_b [] [] (argEnv 0 args) H (spec_l1Rd_once_p R)) (hn : args.length ≤ 11 := by exact of_decide_eq_true rfl) : CallsA prog spec_l1Rd_once args H R := callsD_of Go.Proofs.Tryd.func16 (by kernel_rfl) (by kernel_rfl) (by kernel_rfl) (enters_of Go.Proofs.Tryd.func16 (by kernel_rfl) rfl) hn h
theorem spec_l1Rd_once_eq (hD : IsD 11 [4] D) {r_b0 r_i0 : Nat} {n0 : Int} {H0 : AH} : D spec_l1Rd_once_b [] [] (argEnv 0 [V.ptr r_b0 r_i0, V.int IntKind.i64 n0]) H0 (spec_l1Rd_once_p R) = (
  CallsA prog spec_l1Rd_below [V.ptr r_b0 r_i0, V.int IntKind.i64 n0] H0 fun v0 H1 => asInt IntKind.i64 v0 fun n1 => R (V.bool (n1 == IntKind.i64.wrap (n0 - 1))) H1) := (hD _ _ _ _ _ _).trans (by kernel_rfl)

end Go.Proofs.YtpjkammmoaeheaaDoor.Aw
