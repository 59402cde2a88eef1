/- Contracts of the functions: ends of matches on both sides; first bytes, shortest, empty; the law. -/
import Derived.Test.YtpjkammmoaeheaaDoorG5
import Derived.Shelf.Strconv.Itoa1
import Derived.Lib.AppendIntMem

/- Contracts: an expression with a text and a place is drawn. -/
set_option linter.unusedSimpArgs false
set_option linter.unusedVariables false
set_option maxRecDepth 10000
namespace Go.Proofs.YtpjkammmoaeheaaDoor.Aw
open Go Go.RowKit

theorem rep_bytes (n : Nat) : rep n [V.int .u8 0] = (List.replicate n (0 : UInt8)).map byteV := by
  unfold rep
  rw [show (List.replicate n [V.int .u8 0]).flatten = List.replicate n (V.int .u8 0) by simp, List.map_replicate]
  rfl

theorem c_l4Case {H : AH} {rb : Nat} (hr : Rd H rb) : CallsA prog spec_l4Case [.ptr rb 0] H fun v H' =>
    ∃ b i n c x s, v = .tup [.agg [.sl b i n c], .str s] ∧ IsNodes (fun y => H.length ≤ y) H' (.sl b i n c) x ∧ s.length ≤ 100000 ∧ Drew H rb H' := by
  have hlt := hr.lt
  refine spec_l4Case_in fun D hD => ?_
  rw [spec_l4Case_eq hD]
  have hd0 : Drew H rb (H ++ [Blk.cells [V.sl 0 0 0 .nil] false]) := (Drew.refl hr).ext0 (Ext.app _ _ _)
  have hl0 : (H ++ [Blk.cells [V.sl 0 0 0 .nil] false]).length = H.length + 1 := by simp
  refine (c_deep hd0.1).use ?_
  rintro _ H1 ⟨⟨d, rfl, d1, d5⟩, hd1⟩
  have ed : d = ((d.toNat : Nat) : Int) := by omega
  rw [ed]
  refine asIntI ((c_rx hd1.1 (by omega)).use ?_)
  rintro _ H2 ⟨nb, nn, nc, rs, rfl, hx2, ok, hd2⟩
  have g2 := hd2.2.get (hd1.2.get (get_new H (Blk.cells [V.sl 0 0 0 .nil] false)) (by omega)) (by omega)
  have lg2 := get_lt g2
  have l1 := hd1.2.1
  have l2 := hd2.2.1
  have hd02 := hd0.trans (hd1.trans hd2)
  have hnn := hx2.len
  refine asAggI (unconsI (asSlI (unnilI (stAll (get_new _ _) rfl ?_))))
  generalize hT : (H2 ++ [Blk.cells [V.sl 0 0 0 .nil] false]).set H2.length (.cells [V.sl nb 0 nn nc] false) = T
  have hET : Ext0 H2 T := by rw [← hT]; exact (Ext.app (fun _ => False) _ _).new (Ext.set _ _ _ (.inr (Nat.le_refl _)))
  have tX : T[H2.length]? = some (.cells [V.sl nb 0 nn nc] false) := by rw [← hT]; exact get_set _ (by simp)
  let F : Nat → Prop := fun y => H.length + 1 ≤ y ∧ y ≠ H2.length
  let S (G : AH) : Prop := Drew H rb G ∧ (∃ w, G[H.length]? = some (.cells [w] false)) ∧ ∃ b i n c x, G[H2.length]? = some (.cells [V.sl b i n c] false) ∧ IsNodes F G (.sl b i n c) x
  have dS : ∀ G G', S G → Drew G rb G' → S G' := by
    rintro G G' ⟨h1, ⟨w, h2⟩, b, i, n, c, x, h3, h4⟩ hd
    exact ⟨h1.trans hd, ⟨w, hd.2.get h2 (by omega)⟩, b, i, n, c, x, hd.2.get h3 (by omega), h4.keep hd.2 fun y hy => by have := hy.1; omega⟩
  have hN2 : IsNodes F H2 (.sl nb 0 nn nc) (rs.map Raw.nd) := hx2.nodes fun y h1 h2 => ⟨by omega, by omega⟩
  have hST : S T := ⟨hd02.ext0 hET, ⟨_, hET.get g2 id⟩, _, _, _, _, _, tX, hN2.keep0 hET⟩
  have J4 : ∀ (s : List UInt8) G, S G → s.length ≤ 100000 → J_spec_l4Case_4 D (fun v H' => ∃ b i n c x s, v = .tup [.agg [.sl b i n c], .str s] ∧ IsNodes (fun y => H.length ≤ y) H' (.sl b i n c) x ∧ s.length ≤ 100000 ∧ Drew H rb H') [(4, .ptr H2.length 0), (5, .str s), (2, .ptr H.length 0)] G := by
    rintro s G ⟨h1, ⟨w, h2⟩, b, i, n, c, x, h3, h4⟩ hs
    rw [J_spec_l4Case_4_eq hD]
    refine ldSl (cell_of (i := 0) h3 rfl) (stAll h2 rfl (ldSl (cell_of (i := 0) (get_set _ (get_lt h2)) rfl) ⟨b, i, n, c, x, s, rfl, ?_, hs, h1.new hlt (Ext.set (X := fun x => x = H.length) _ _ _ rfl) (by omega)⟩))
    exact (h4.keep (Ext.set (X := fun x => x = H.length) _ _ _ rfl) (fun y hy => by have := hy.1; omega)).lift fun y hy => by have := hy.1; omega
  have J3 : ∀ (s : List UInt8) G, S G → s.length ≤ 100000 → J_spec_l4Case_3 D (fun v H' => ∃ b i n c x s, v = .tup [.agg [.sl b i n c], .str s] ∧ IsNodes (fun y => H.length ≤ y) H' (.sl b i n c) x ∧ s.length ≤ 100000 ∧ Drew H rb H') [(0, .ptr rb 0), (4, .ptr H2.length 0), (5, .str s), (2, .ptr H.length 0)] G := by
    intro s G hS hs
    rw [J_spec_l4Case_3_eq hD]
    refine (c_once hS.1.1).use ?_
    rintro _ G2 ⟨⟨t, rfl⟩, hd2⟩
    have hS2 := dS _ _ hS hd2
    refine asBoolI (spl (fun _ => (c_oddRx (deep := 2) hS2.1.1 (by omega)).use ?_) (fun _ => J4 s _ hS2 hs))
    rintro _ G3 ⟨b, i, n, c, x, rfl, hN, hd3⟩
    obtain ⟨h1, ⟨w, h2⟩, b0, i0, n0, c0, x0, h3, h4⟩ := dS _ _ hS2 hd3
    have hl2 : H2.length < G2.length := by obtain ⟨_, _, _, _, _, _, _, h, _⟩ := hS2; exact get_lt h
    refine asAggI (unconsI (asSlI (unnilI (stAll h3 rfl (J4 s _ ⟨h1.new hlt (Ext.set (X := fun x => x = H2.length) _ _ _ rfl) (by omega), ⟨w, (Ext.set (X := fun x => x = H2.length) _ _ _ rfl).get h2 (by omega)⟩, b, i, n, c, x, get_set _ (get_lt h3), ?_⟩ hs)))))
    exact (hN.keep (Ext.set (X := fun x => x = H2.length) _ _ _ rfl) (fun y hy => by omega)).lift fun y hy => ⟨by omega, by omega⟩
  have J2 : ∀ (s : List UInt8) G, S G → s.length ≤ 100000 → J_spec_l4Case_2 D (fun v H' => ∃ b i n c x s, v = .tup [.agg [.sl b i n c], .str s] ∧ IsNodes (fun y => H.length ≤ y) H' (.sl b i n c) x ∧ s.length ≤ 100000 ∧ Drew H rb H') [(5, .str s), (0, .ptr rb 0), (4, .ptr H2.length 0), (2, .ptr H.length 0)] G := by
    intro s G hS hs
    rw [J_spec_l4Case_2_eq hD]
    refine (c_once hS.1.1).use ?_
    rintro _ G2 ⟨⟨t, rfl⟩, hd2⟩
    have hS2 := dS _ _ hS hd2
    refine asBoolI (spl (fun _ => (c_text hS2.1.1 (by omega) (by omega)).use ?_) (fun _ => J3 s _ hS2 hs))
    rintro _ G3 ⟨⟨s3, rfl, hs3⟩, hd3⟩
    exact asStrI (J3 s3 _ (dS _ _ hS2 hd3) (by omega))
  have J1 : ∀ (s : List UInt8) G, S G → s.length ≤ 60000 → J_spec_l4Case_1 D (fun v H' => ∃ b i n c x s, v = .tup [.agg [.sl b i n c], .str s] ∧ IsNodes (fun y => H.length ≤ y) H' (.sl b i n c) x ∧ s.length ≤ 100000 ∧ Drew H rb H') [(5, .str s), (0, .ptr rb 0), (4, .ptr H2.length 0), (2, .ptr H.length 0)] G := by
    intro s G hS hs
    rw [J_spec_l4Case_1_eq hD]
    refine (c_once hS.1.1).use ?_
    rintro _ G2 ⟨⟨t, rfl⟩, hd2⟩
    have hS2 := dS _ _ hS hd2
    refine asBoolI (spl (fun _ => (c_text hS2.1.1 (by omega) (by omega)).use ?_) (fun _ => J2 s _ hS2 (by omega)))
    rintro _ G3 ⟨⟨s3, rfl, hs3⟩, hd3⟩
    exact asStrI ⟨by unfold catOk; omega, J2 (s ++ s3) _ (dS _ _ hS2 hd3) (by simp; omega)⟩
  have gX := cell_of (i := 0) tX rfl
  have hpos := ok.pos
  have hmost := ok.most
  have hmr : (rs.map Raw.nd).length = rs.length := by simp
  rw [hmr] at hpos hmost
  refine ldSl gX (ldSl gX ?_)
  have e : IntKind.i64.wrap ((nn : Int) - 1) = (((rs.map Raw.nd).length - 1 : Nat) : Int) := by rw [w64 (by omega) (by omega), hmr]; omega
  rw [e]
  have hsr := size_root ok
  refine (c_sample (F := F) (fun b hb => by have := hb.1; omega) ok.node (by omega) _ (by omega) T 0 hST.1.1 (hN2.keep0 hET) (by omega)).use ?_
  rintro _ G ⟨⟨s, rfl, hs⟩, hd⟩
  have hS := dS _ _ hST hd
  exact asStrI (splD (fun h => ⟨⟨by omega, by omega, by omega⟩, J1 (s.take 300) _ hS (by simp; omega)⟩) (fun h => J1 s _ hS (by omega)))

theorem c_DrawEndsAt {H : AH} {b i n : Nat} {c : Cap} (hn : n ≤ 1048576) (hb : b < H.length) (hc : ∀ k, k < n → ∃ x, H.cell b (i + k * 1) = some (.int .u8 x) ∧ 0 ≤ x ∧ x ≤ 255) : CallsA prog spec_DrawEndsAt [.sl b i n c] H fun v H' =>
    ∃ b i n c x s pl, v = .tup [.agg [.sl b i n c], .str s, .int .i64 pl] ∧ IsNodes (fun y => H.length ≤ y) H' (.sl b i n c) x ∧ s.length ≤ 100000 ∧ Ext0 H H' := by
  refine spec_DrawEndsAt_in fun D hD => ?_
  rw [spec_DrawEndsAt_eq hD]
  have hE0 : Ext0 H (H ++ [Blk.cells [V.sl 0 0 0 .nil] false]) := Ext.app _ _ _
  have hl0 : (H ++ [Blk.cells [V.sl 0 0 0 .nil] false]).length = H.length + 1 := by simp
  refine (c_open hn (by omega) fun k hk => by obtain ⟨x, h1, h2⟩ := hc k hk; exact ⟨x, hE0.cell h1 id, h2⟩).use ?_
  rintro _ H1 ⟨rfl, hr1, hE1, hl1⟩
  rw [hl0] at hr1 hl1 ⊢
  have g1 := hE1.get (get_new H (Blk.cells [V.sl 0 0 0 .nil] false)) id
  generalize hrb : H.length + 1 = rb at hr1 hl1 ⊢
  refine asPtrI ((c_l4Case hr1).use ?_)
  rintro _ H2 ⟨xb, xi, xn, xc, x, s, rfl, hN, hs, hd2⟩
  have hE01 : Ext0 H H1 := hE0.trans hE1
  have l2 := hd2.2.1
  refine asTupI (unconsI (asAggI (unconsI (asSlI (unnilI (unconsI (asStrI (unnilI (stAll (get_new _ _) rfl ?_)))))))))
  generalize hT : (H2 ++ [Blk.cells [V.sl 0 0 0 .nil] false]).set H2.length (.cells [V.sl xb xi xn xc] false) = T
  have hET : Ext0 H2 T := by rw [← hT]; exact (Ext.app (fun _ => False) _ _).new (Ext.set _ _ _ (.inr (Nat.le_refl _)))
  have tX : T[H2.length]? = some (.cells [V.sl xb xi xn xc] false) := by rw [← hT]; exact get_set _ (by simp)
  let F : Nat → Prop := fun y => H1.length ≤ y
  let S (G : AH) : Prop := Drew H1 rb G ∧ (∃ w, G[H.length]? = some (.cells [w] false)) ∧ G[H2.length]? = some (.cells [V.sl xb xi xn xc] false) ∧ IsNodes F G (.sl xb xi xn xc) x
  have hlt1 := hr1.lt
  have dS : ∀ G G', S G → Drew G rb G' → S G' := by
    rintro G G' ⟨h1, ⟨w, h2⟩, h3, h4⟩ hd
    exact ⟨h1.trans hd, ⟨w, hd.2.get h2 (by omega)⟩, hd.2.get h3 (by omega), h4.keep hd.2 fun y (hy : H1.length ≤ y) => by omega⟩
  have eS : ∀ G G', S G → Ext0 G G' → S G' := by
    rintro G G' ⟨h1, ⟨w, h2⟩, h3, h4⟩ hd
    exact ⟨h1.ext0 hd, ⟨w, hd.get h2 id⟩, hd.get h3 id, h4.keep0 hd⟩
  have hST : S T := ⟨hd2.ext0 hET, ⟨_, hET.get (hd2.2.get g1 (by omega)) id⟩, tX, hN.keep0 hET⟩
  -- the end
  have out : ∀ (G : AH) (pl : Int) (s : List UInt8), S G → s.length ≤ 100000 → stK G H.length 0 [.sl xb xi xn xc] fun G2 => ld G2 H.length (0 + 0) fun v2 => asSl v2 fun b1 i1 n1 c1 =>
      ∃ b i n c x s' pl', V.tup [.agg [.sl b1 i1 n1 c1], .str s, .int .i64 pl] = .tup [.agg [.sl b i n c], .str s', .int .i64 pl'] ∧ IsNodes (fun y => H.length ≤ y) G2 (.sl b i n c) x ∧ s'.length ≤ 100000 ∧ Ext0 H G2 := by
    rintro G pl s ⟨h1, ⟨w, h2⟩, h3, h4⟩ hs
    have hEG : Ext (fun x => x = H.length) G (G.set H.length (.cells [V.sl xb xi xn xc] false)) := Ext.set _ _ _ rfl
    refine stAll h2 rfl (ldSl (cell_of (i := 0) (get_set _ (get_lt h2)) rfl) ⟨xb, xi, xn, xc, x, s, pl, rfl, ?_, hs, ?_⟩)
    · exact (h4.keep hEG (fun y (hy : H1.length ≤ y) => by omega)).lift fun y (hy : H1.length ≤ y) => by omega
    · exact (hE01.new (h1.2.mono fun y _ hy => .inr (by omega))).new (hEG.mono fun y _ hy => .inr (by omega))
  have J1 : ∀ (s : List UInt8) G, S G → s.length ≤ 100000 → J_spec_DrawEndsAt_1 D (fun v H' =>
    ∃ b i n c x s pl, v = .tup [.agg [.sl b i n c], .str s, .int .i64 pl] ∧ IsNodes (fun y => H.length ≤ y) H' (.sl b i n c) x ∧ s.length ≤ 100000 ∧ Ext0 H H') [(5, .ptr rb 0), (6, .ptr H2.length 0), (7, .str s), (2, .ptr H.length 0)] G := by
    intro s G hS hs
    rw [J_spec_DrawEndsAt_1_eq hD]
    refine (c_once hS.1.1).use ?_
    rintro _ G2 ⟨⟨t, rfl⟩, hd2⟩
    have hS2 := dS _ _ hS hd2
    refine asBoolI (spl (fun _ => ldSl (cell_of (i := 0) hS2.2.2.1 rfl) (out G2 0 s hS2 hs)) (fun _ => ?_))
    rw [J_spec_DrawEndsAt_2_eq hD]
    refine ldSl (cell_of (i := 0) hS2.2.2.1 rfl) ((c_off hS2.1.1 (by omega) (by omega) (by omega) (by omega)).use ?_)
    rintro _ G3 ⟨⟨pl, rfl⟩, hd3⟩
    have hS3 := dS _ _ hS2 hd3
    exact asIntI ⟨⟨cell_of (i := 0) hS3.2.2.1 rfl, trivial⟩, out G3 pl s hS3 hs⟩
  refine (c_once hST.1.1).use ?_
  rintro _ G ⟨⟨t, rfl⟩, hd⟩
  have hS := dS _ _ hST hd
  refine asBoolI (spl (fun _ => (c_below hS.1.1).use ?_) (fun _ => J1 s _ hS hs))
  rintro _ G2 ⟨⟨y, rfl, y0, y1⟩, hd2⟩
  have hS2 := dS _ _ hS hd2
  refine asIntI ?_
  rw [w64 (by omega) (by omega), rep_bytes]
  refine ⟨⟨by omega, by omega, by omega, by omega⟩, strI (s := List.replicate (300 + y).toNat 0) ?_ (J1 _ _ (eS _ _ hS2 (Ext.app _ _ _)) (by simp; omega))⟩
  have := (Cells.of_block (get_new G2 (Blk.cells ((List.replicate (300 + y).toNat (0 : UInt8)).map byteV) false))).cellsN
  simpa using this

end Go.Proofs.YtpjkammmoaeheaaDoor.Aw

/- Contracts: the reference's ends of matches. -/
set_option linter.unusedSimpArgs false
set_option linter.unusedVariables false
set_option maxRecDepth 10000
namespace Go.Proofs.YtpjkammmoaeheaaDoor.Aw
open Go Go.RowKit

theorem c_l4Or {F : Nat → Prop} {H : AH} {va vb : V} {n : Nat} {p q : Nat → Bool} (ha : IsBools F H va (bl n p)) (hb : IsBools F H vb (bl n q)) : CallsA prog spec_l4Or [va, vb] H fun r H' => IsBools (fun y => H.length ≤ y) H' r (bl n fun k => p k || q k) ∧ Ext0 H H' := by
  obtain ⟨ab, ai, ac, rfl, hn, -, ha⟩ := bRow_cell ha
  obtain ⟨bb, bi, bc, rfl, -, -, hb⟩ := bRow_cell hb
  refine spec_l4Or_in fun D hD => ?_
  rw [spec_l4Or_eq hD]
  refine loopUp (σ := Nat × Nat × Cap) n (fun k s => [(5, .sl s.1 0 s.2.1 s.2.2), (6, .int .i64 k), (0, .sl ab ai n ac), (1, .sl bb bi n bc)]) (fun k s H' => Ext0 H H' ∧ Own H.length 1 H' s.1 s.2.1 s.2.2 (bV k fun j => p j || q j)) (H.length, 0, .ex 0) rfl
    ⟨Ext.app _ _ _, Own.lit (by rfl) (Nat.le_refl _) (Nat.zero_le _)⟩ ?_
  rintro k ⟨ob, on, oc⟩ H1 hk ⟨hE, hO⟩
  simp only at hO ⊢
  have hon : on = k := by have := hO.len; rw [bV_len] at this; omega
  rw [L_spec_l4Or_2_eq hD]
  refine splD (fun h => ?_) (fun h => ?_)
  · have hkl : k < n := by omega
    rw [J_spec_l4Or_3_eq hD, tn]
    have push : ∀ z : Bool, z = (p k || q k) → cellsK (H1 ++ [Blk.cells [V.bool z] false]) H1.length 0 1 fun l0 => app (H1 ++ [Blk.cells [V.bool z] false]) 1 1 ob 0 on oc 1 l0 fun b0 i1 n0 c0 H2 =>
        J_spec_l4Or_4 D (fun r H' => IsBools (fun y => H.length ≤ y) H' r (bl n fun k => p k || q k) ∧ Ext0 H H') (Nxt n (fun k s => [(5, .sl s.1 0 s.2.1 s.2.2), (6, .int .i64 k), (0, .sl ab ai n ac), (1, .sl bb bi n bc)]) (fun k (s : Nat × Nat × Cap) H' => Ext0 H H' ∧ Own H.length 1 H' s.1 s.2.1 s.2.2 (bV k fun j => p j || q j)) k) [(6, .int .i64 k), (5, .sl b0 i1 n0 c0), (0, .sl ab ai n ac), (1, .sl bb bi n bc)] H2 := by
      intro z hz
      refine cellsNew rfl ?_
      have hO2 : Own H.length 1 (H1 ++ [Blk.cells [V.bool z] false]) ob on oc (bV k fun j => p j || q j) := hO.keep (Ext.app (fun _ => False) _ _) (fun _ => id)
      refine hO2.push (m := 1) rfl (by omega) (by omega) (by omega) (by omega) (by have := hE.1; simp; omega) fun H' hO' hl he => ?_
      rw [J_spec_l4Or_4_eq hD, inc (by omega)]
      refine nxt (_, _, _) hkl rfl ⟨(hE.trans (Ext.app _ _ _)).new (he.mono fun x _ hx => .inr hx.1), ?_⟩
      have e : bV (k + 1) (fun j => p j || q j) = bV k (fun j => p j || q j) ++ [V.bool z] := by
        simp only [bV, bl, List.range_succ, List.map_append, List.map_cons, List.map_nil, hz]
      simp only [e]
      exact hO'
    refine ⟨⟨by omega, by omega⟩, ldBool (hE.cell (ha k hkl) id) (spl (fun hp => push true (by rw [hp]; rfl)) (fun hp => ⟨⟨by omega, by omega⟩, ldBool (hE.cell (hb k hkl) id) (push _ (by rw [hp, Bool.false_or]))⟩))⟩
  · rw [J_spec_l4Or_1_eq hD]
    rw [show k = n by omega] at hO
    exact ⟨hO.row1, hE⟩

structure Memo (F A : Nat → Prop) (mb gb : Nat) (v : V) (x : List Nd) (t : List UInt8) (H : AH) : Prop where
  cell : H[mb]? = some (.cells [v, .str t, .sl gb 0 (x.length * (t.length + 1)) (.ex (x.length * (t.length + 1)))] false)
  nodes : IsNodes F H v x
  got : ∃ vs, H[gb]? = some (.cells vs false) ∧ vs.length = x.length * (t.length + 1) ∧ ∀ k w, vs[k]? = some w → (∃ b i c, w = .sl b i 0 c) ∨ ∃ i a, k = i * (t.length + 1) + a ∧ a ≤ t.length ∧ IsBools (fun y => y ≠ gb ∧ ¬ A y) H w (bl (t.length + 1) (dB (En x t i a)))

theorem Memo.keep0 {F A : Nat → Prop} {mb gb : Nat} {v : V} {x : List Nd} {t : List UInt8} {H H' : AH} (h : Memo F A mb gb v x t H) (he : Ext0 H H') : Memo F A mb gb v x t H' := by
  obtain ⟨h1, h2, vs, h3, h4, h5⟩ := h
  refine ⟨he.get h1 id, h2.keep0 he, vs, he.get h3 id, h4, fun k w hw => (h5 k w hw).imp id fun ⟨i, a, q1, q2, q3⟩ => ⟨i, a, q1, q2, q3.keep0 he⟩⟩

abbrev notB (gb : Nat) (A : Nat → Prop) : Nat → Prop := fun y => y ≠ gb ∧ ¬ A y
/-- What a call leaves that may fill the memo. -/
def MemoPost (F A : Nat → Prop) (mb gb : Nat) (v : V) (x : List Nd) (t : List UInt8) (H : AH) (P : PS) (r : V) (H' : AH) : Prop :=
  IsBools (notB gb A) H' r (bl (t.length + 1) (dB P)) ∧ Ext (fun y => y = gb) H H' ∧ Memo F A mb gb v x t H'

theorem idx_inj {n i a j b : Nat} (ha : a ≤ n) (hb : b ≤ n) (h : i * (n + 1) + a = j * (n + 1) + b) : i = j ∧ a = b := by
  have h1 : (i * (n + 1) + a) / (n + 1) = i := by rw [Nat.mul_comm, Nat.mul_add_div (by omega), Nat.div_eq_of_lt (by omega)]; omega
  have h2 : (j * (n + 1) + b) / (n + 1) = j := by rw [Nat.mul_comm, Nat.mul_add_div (by omega), Nat.div_eq_of_lt (by omega)]; omega
  have : i = j := by rw [← h1, h, h2]
  subst this
  omega
theorem idx_lt {n i a m : Nat} (ha : a ≤ n) (hi : i < m) : i * (n + 1) + a < m * (n + 1) := by
  have := Nat.mul_le_mul_right (n + 1) (show i + 1 ≤ m by omega)
  rw [Nat.succ_mul] at this
  omega

theorem fresh_notB {H H' : AH} {A : Nat → Prop} {gb : Nat} {r : V} {l : List Bool} (h : IsBools (fun y => H.length ≤ y) H' r l) (hg : gb < H.length) (hA : ∀ y, A y → y < H.length) : IsBools (notB gb A) H' r l := h.mono fun y hy => ⟨by omega, fun ha => by have := hA y ha; omega⟩
theorem IsBools.keepG {H H' : AH} {A : Nat → Prop} {gb : Nat} {r : V} {l : List Bool} (h : IsBools (notB gb A) H r l) (he : Ext (fun y => y = gb) H H') : IsBools (notB gb A) H' r l := IsRow.keep h (loc_e1 _ _) (he.agree fun y hy => hy.1)

section
variable {F : Nat → Prop} {mb gb : Nat} {v : V} {x : List Nd} {t : List UInt8} (hok : ∀ i n, x[i]? = some n → NodeOk n i) (hxl : x.length ≤ 300) (htl : t.length ≤ 300) (hFg : ∀ y, F y → y < gb) (hmg : mb ≠ gb)

def EndsC (F : Nat → Prop) (mb gb : Nat) (v : V) (x : List Nd) (t : List UInt8) (i : Nat) : Prop := ∀ (A : Nat → Prop) (H : AH) (a : Nat), (∀ y, A y → y < H.length) → Memo F A mb gb v x t H → a ≤ t.length → CallsA prog spec_l4Memo_ends [.ptr mb 0, .int .i64 i, .int .i64 a] H fun r H' => MemoPost F A mb gb v x t H (En x t i a) r H'
def FindC (F : Nat → Prop) (mb gb : Nat) (v : V) (x : List Nd) (t : List UInt8) (i : Nat) : Prop := ∀ (A : Nat → Prop) (H : AH) (a : Nat), (∀ y, A y → y < H.length) → Memo F A mb gb v x t H → a ≤ t.length → CallsA prog spec_l4Memo_find [.ptr mb 0, .int .i64 i, .int .i64 a] H fun r H' => MemoPost F A mb gb v x t H (En x t i a) r H'

include hxl htl hFg hmg in
theorem ends_of {i : Nat} (hi : i < x.length) (hf : FindC F mb gb v x t i) : EndsC F mb gb v x t i := by
  intro A H a hA hM ha
  obtain ⟨vs, hg, hvl, hvs⟩ := hM.got
  refine spec_l4Memo_ends_in fun D hD => ?_
  rw [spec_l4Memo_ends_eq hD]
  have hmul : i * (t.length + 1) + a < x.length * (t.length + 1) := idx_lt ha hi
  have hbig : x.length * (t.length + 1) ≤ 300 * 301 := Nat.mul_le_mul hxl (by omega)
  have hsub : i * (t.length + 1) ≤ 300 * 301 := Nat.mul_le_mul (by omega) (by omega)
  have e : IntKind.i64.wrap (IntKind.i64.wrap ((i : Int) * IntKind.i64.wrap ((t.length : Int) + 1)) + (a : Int)) = ((i * (t.length + 1) + a : Nat) : Int) := by
    rw [inc (by omega), show (i : Int) * ((t.length + 1 : Nat) : Int) = ((i * (t.length + 1) : Nat) : Int) by rw [Int.natCast_mul], w64 (x := ((i * (t.length + 1) : Nat) : Int)) (by omega) (by omega), w64 (by omega) (by omega)]
    omega
  generalize hk : i * (t.length + 1) + a = k at e hmul
  refine ldStr (cell_of (i := 1) hM.cell rfl) (ldSl (cell_of (i := 2) hM.cell rfl) ?_)
  rw [e, tn]
  obtain ⟨w, hw⟩ : ∃ w, vs[k]? = some w := ⟨_, List.getElem?_eq_getElem (by omega)⟩
  have kc : ∀ {H' : AH} {us : List V} {u : V}, H'[gb]? = some (.cells us false) → us[k]? = some u → H'.cell gb (0 + k * 1) = some u := fun h hu => cell_of h (by rw [Nat.zero_add, Nat.mul_one]; exact hu)
  have J1 : ∀ (H' : AH) (us : List V) (u : V), Memo F A mb gb v x t H' → Ext (fun y => y = gb) H H' → H'[gb]? = some (.cells us false) → us[k]? = some u → IsBools (notB gb A) H' u (bl (t.length + 1) (dB (En x t i a))) →
      J_spec_l4Memo_ends_1 D (fun r H' => MemoPost F A mb gb v x t H (En x t i a) r H') [(0, .ptr mb 0), (7, .int .i64 (k : Int))] H' := by
    intro H' us u hM' hE' hg' hu hr
    have hr0 := hr
    obtain ⟨b, i', c, rfl, -⟩ := hr
    rw [J_spec_l4Memo_ends_1_eq hD, tn]
    exact ldSl (cell_of (i := 2) hM'.cell rfl) ⟨⟨by omega, by omega⟩, ldSl (kc hg' hu) ⟨hr0, hE', hM'⟩⟩
  have miss : ∀ {b' i' : Nat} {c' : Cap}, w = .sl b' i' 0 c' → asSl w fun b1 i1 n1 c1 => splitB ((n1 : Int) == 0) (ld H mb (0 + 2) fun v3 => asSl v3 fun b2 i2 n2 c2 => CallsA prog spec_l4Memo_find [.ptr mb 0, .int .i64 i, .int .i64 a] H fun v4 H1 => asSl v4 fun b3 i3 n3 c3 => H1.cell mb (0 + 2) = some (.sl b2 i2 n2 c2) ∧ inB (k : Int) n2 ∧
      stK H1 b2 (i2 + k * 1) [.sl b3 i3 n3 c3] fun H2 => J_spec_l4Memo_ends_1 D (fun r H' => MemoPost F A mb gb v x t H (En x t i a) r H') [(0, .ptr mb 0), (7, .int .i64 (k : Int))] H2) (J_spec_l4Memo_ends_1 D (fun r H' => MemoPost F A mb gb v x t H (En x t i a) r H') [(0, .ptr mb 0), (7, .int .i64 (k : Int))] H) := by
    rintro b' i' c' rfl
    refine asSlI (splT (by simp) (ldSl (cell_of (i := 2) hM.cell rfl) ((hf A H a hA hM ha).use ?_)))
    rintro r H1 ⟨hr, hE1, hM1⟩
    have hr0 := hr
    obtain ⟨rb', ri, rc, rfl, -⟩ := hr
    obtain ⟨us, hg1, hul, hus⟩ := hM1.got
    refine asSlI ⟨cell_of (i := 2) hM1.cell rfl, ⟨by omega, by omega⟩, ?_⟩
    rw [Nat.zero_add, Nat.mul_one]
    refine stI hg1 (by omega) ?_
    generalize hG : H1.set gb (.cells (us.set k (V.sl rb' ri (bl (t.length + 1) (dB (En x t i a))).length rc)) false) = G
    have hEG : Ext (fun y => y = gb) H1 G := by rw [← hG]; exact Ext.set _ _ _ rfl
    have gG : G[gb]? = some (.cells (us.set k (V.sl rb' ri (bl (t.length + 1) (dB (En x t i a))).length rc)) false) := by rw [← hG]; exact get_set _ (get_lt hg1)
    have hrG := hr0.keepG hEG
    refine J1 G _ _ ⟨hEG.get hM1.cell hmg, hM1.nodes.keep hEG (fun y hy => Nat.ne_of_lt (hFg y hy)), _, gG, by rw [List.length_set]; exact hul, fun m u hu => ?_⟩ (hE1.trans hEG) gG (by rw [List.getElem?_set_self (by omega)]) hrG
    rw [List.getElem?_set] at hu
    by_cases hkm : k = m
    · rw [if_pos hkm, if_pos (by omega)] at hu
      cases hu
      exact .inr ⟨i, a, by omega, ha, hrG⟩
    · rw [if_neg hkm] at hu
      exact (hus m u hu).imp id fun ⟨j, c, q1, q2, q3⟩ => ⟨j, c, q1, q2, IsBools.keepG q3 hEG⟩
  refine ⟨⟨by omega, by omega⟩, ldI (kc hg hw) ?_⟩
  rcases hvs k w hw with ⟨b, i', c, hwe⟩ | ⟨j, c, q1, q2, q3⟩
  · exact miss hwe
  · obtain ⟨rfl, rfl⟩ := idx_inj ha q2 (hk.trans q1)
    have q3' := q3
    obtain ⟨b, i', c', rfl, -⟩ := q3
    refine asSlI (splF (by simp [bl_len]; omega) (J1 H vs _ hM (Ext.refl _ _) hg hw q3'))

include htl in
theorem step_of {i : Nat} (he : EndsC F mb gb v x t i) {A : Nat → Prop} {H : AH} {w : V} {P : PS} (hA : ∀ y, A y → y < H.length) (hM : Memo F A mb gb v x t H) (hw : IsBools (notB gb A) H w (bl (t.length + 1) (dB P))) (hP : ∀ a, P a → a ≤ t.length) :
    CallsA prog spec_l4Memo_step [.ptr mb 0, .int .i64 i, w] H fun r H' => MemoPost F A mb gb v x t H (img (En x t i) P) r H' := by
  have hw0 := hw
  obtain ⟨fb, fi, fc, rfl, -⟩ := bRow_cell hw
  obtain ⟨vs, hg, -⟩ := hM.got
  have hgl := get_lt hg
  refine spec_l4Memo_step_in fun D hD => ?_
  rw [spec_l4Memo_step_eq hD, tn]
  have er : rep (t.length + 1) [V.bool false] = bV (t.length + 1) fun _ => false := by
    unfold rep; rw [show (List.replicate (t.length + 1) [V.bool false]).flatten = List.replicate (t.length + 1) (V.bool false) by simp, bV_rep]
  rw [er]
  refine ⟨⟨by omega, by omega, by omega, by omega⟩, ?_⟩
  have hE0 : Ext0 H (H ++ [Blk.cells (bV (t.length + 1) fun _ => false) false]) := Ext.app _ _ _
  refine loopUp (σ := V) (t.length + 1) (fun k o => [(7, o), (8, .int .i64 k), (2, .sl fb fi (t.length + 1) fc), (0, .ptr mb 0), (1, .int .i64 i)])
    (fun k o H' => Ext (fun y => y = gb) H H' ∧ Memo F A mb gb v x t H' ∧ IsBools (notB gb A) H' o (bl (t.length + 1) (dB fun b => ∃ a, a < k ∧ P a ∧ En x t i a b))) _ rfl
    ⟨hE0.of0, hM.keep0 hE0, by
      have : IsBools (notB gb A) (H ++ [Blk.cells (bV (t.length + 1) fun _ => false) false]) (.sl H.length 0 (t.length + 1) (.ex (t.length + 1))) (bl (t.length + 1) fun _ => false) := bRow (get_new _ _) ⟨by omega, fun ha => by have := hA _ ha; omega⟩ (by omega)
      rwa [bl_dB' (Q := fun b => ∃ a, a < 0 ∧ P a ∧ En x t i a b) (fun b _ => by simp)] at this⟩ ?_
  rintro k o H1 hk ⟨hE1, hM1, ho⟩
  have ho0 := ho
  obtain ⟨ob, oi, oc, rfl, -⟩ := bRow_cell ho
  rw [L_spec_l4Memo_step_2_eq hD]
  refine splD (fun h => ?_) (fun h => ?_)
  · have hkl : k < t.length + 1 := by omega
    obtain ⟨fb', fi', fc', e', -, -, hcell⟩ := bRow_cell (hw0.keepG hE1)
    cases e'
    rw [J_spec_l4Memo_step_3_eq hD, tn]
    have J4 : ∀ (o : V) (H' : AH), Ext (fun y => y = gb) H H' → Memo F A mb gb v x t H' → IsBools (notB gb A) H' o (bl (t.length + 1) (dB fun b => ∃ a, a < k + 1 ∧ P a ∧ En x t i a b)) → ∀ ob oi on oc, o = .sl ob oi on oc →
        J_spec_l4Memo_step_4 D (fun r H' => MemoPost F A mb gb v x t H (img (En x t i) P) r H') (Nxt (t.length + 1) (fun k o => [(7, o), (8, .int .i64 k), (2, .sl fb fi (t.length + 1) fc), (0, .ptr mb 0), (1, .int .i64 i)])
    (fun k o H' => Ext (fun y => y = gb) H H' ∧ Memo F A mb gb v x t H' ∧ IsBools (notB gb A) H' o (bl (t.length + 1) (dB fun b => ∃ a, a < k ∧ P a ∧ En x t i a b))) k) [(8, .int .i64 k), (7, .sl ob oi on oc), (2, .sl fb fi (t.length + 1) fc), (0, .ptr mb 0), (1, .int .i64 i)] H' := by
      rintro o H' h1 h2 h3 ob oi on oc rfl
      rw [J_spec_l4Memo_step_4_eq hD, inc (by omega)]
      exact nxt _ hkl rfl ⟨h1, h2, h3⟩
    refine ⟨⟨by omega, by omega⟩, ldBool (hcell k hkl) (spl (fun hp => (he A H1 k (fun y hy => Nat.lt_of_lt_of_le (hA y hy) hE1.1) hM1 (by omega)).use ?_) (fun hp => J4 _ H1 hE1 hM1 ?_ _ _ _ _ rfl))⟩
    · rintro r H2 ⟨hr, hE2, hM2⟩
      have hr0 := hr
      obtain ⟨rb', ri, rc, rfl, -⟩ := bRow_cell hr
      refine asSlI ((c_l4Or (ho0.keepG hE2) hr0).use ?_)
      rintro r2 H3 ⟨hr2, hE3⟩
      obtain ⟨vs2, hg2, -⟩ := hM2.got
      have hr3 := fresh_notB (A := A) hr2 (get_lt hg2) (fun y hy => Nat.lt_of_lt_of_le (hA y hy) (Nat.le_trans hE1.1 hE2.1))
      have hr3' := hr3
      obtain ⟨rb2, ri2, rc2, rfl, -⟩ := bRow_cell hr3
      refine asSlI (J4 _ H3 ((hE1.trans hE2).trans hE3.of0) (hM2.keep0 hE3) ?_ _ _ _ _ rfl)
      rwa [bl_dB' (Q := fun b => ∃ a, a < k + 1 ∧ P a ∧ En x t i a b) (fun b _ => by
        rw [Bool.or_eq_true, dB_iff, dB_iff]
        have hPk := dB_iff.1 hp
        constructor
        · rintro (⟨a, h1, h2⟩ | h)
          · exact ⟨a, by omega, h2⟩
          · exact ⟨k, by omega, hPk, h⟩
        · rintro ⟨a, h1, h2, h3⟩
          by_cases hak : a = k
          · subst hak; exact .inr h3
          · exact .inl ⟨a, by omega, h2, h3⟩)] at hr3'
    · rwa [bl_dB (Q := fun b => ∃ a, a < k + 1 ∧ P a ∧ En x t i a b) (fun b _ => by
        have hPk := dB_false.1 hp
        constructor
        · rintro ⟨a, h1, h2⟩; exact ⟨a, by omega, h2⟩
        · rintro ⟨a, h1, h2, h3⟩
          exact ⟨a, (Nat.lt_or_ge a k).elim id fun h => absurd ((show a = k by omega) ▸ h2) hPk, h2, h3⟩)] at ho0
  · rw [J_spec_l4Memo_step_1_eq hD]
    refine ⟨?_, hE1, hM1⟩
    rwa [bl_dB (Q := img (En x t i) P) (fun b _ => ⟨fun ⟨a, _, h2, h3⟩ => ⟨a, h2, h3⟩, fun ⟨a, h2, h3⟩ => ⟨a, by have := hP a h2; omega, h2, h3⟩⟩)] at ho0

end

end Go.Proofs.YtpjkammmoaeheaaDoor.Aw

/- Contracts: the reference's ends of matches: any number of times; a node; the whole. -/
set_option linter.unusedSimpArgs false
set_option linter.unusedVariables false
set_option maxRecDepth 10000
namespace Go.Proofs.YtpjkammmoaeheaaDoor.Aw
open Go Go.RowKit

theorem bools_lt {F : Nat → Prop} {H : AH} {v : V} {l : List Bool} (h : IsBools F H v l) : IsBools (fun y => F y ∧ y < H.length) H v l := by
  obtain ⟨b, i, c, rfl, h1, h2, h3⟩ := h
  refine ⟨b, i, c, rfl, h1, fun hl => ⟨h2 hl, ?_⟩, h3⟩
  cases l with
  | nil => exact absurd rfl hl
  | cons z l => exact cell_lt (h3 0 z rfl)

theorem Memo.more {F A B : Nat → Prop} {mb gb : Nat} {v : V} {x : List Nd} {t : List UInt8} {H : AH} (h : Memo F A mb gb v x t H) (hB : ∀ y, B y → H.length ≤ y) : Memo F (fun y => A y ∨ B y) mb gb v x t H := by
  obtain ⟨h1, h2, vs, h3, h4, h5⟩ := h
  refine ⟨h1, h2, vs, h3, h4, fun k w hw => (h5 k w hw).imp id fun ⟨i, a, q1, q2, q3⟩ => ⟨i, a, q1, q2, (bools_lt q3).mono fun y hy => ⟨hy.1.1, fun hh => hh.elim hy.1.2 fun hb => by have := hB y hb; omega⟩⟩⟩
theorem Memo.less {F A B : Nat → Prop} {mb gb : Nat} {v : V} {x : List Nd} {t : List UInt8} {H : AH} (h : Memo F (fun y => A y ∨ B y) mb gb v x t H) : Memo F A mb gb v x t H := by
  obtain ⟨h1, h2, vs, h3, h4, h5⟩ := h
  exact ⟨h1, h2, vs, h3, h4, fun k w hw => (h5 k w hw).imp id fun ⟨i, a, q1, q2, q3⟩ => ⟨i, a, q1, q2, q3.mono fun y hy => ⟨hy.1, fun hh => hy.2 (.inl hh)⟩⟩⟩
theorem Memo.keepA {F A : Nat → Prop} {mb gb : Nat} {v : V} {x : List Nd} {t : List UInt8} {H H' : AH} {d : Nat} (h : Memo F A mb gb v x t H) (he : Ext (fun y => y = d) H H') (hd : A d) (hm : mb ≠ d) (hg : gb ≠ d) (hF : ∀ y, F y → y ≠ d) : Memo F A mb gb v x t H' := by
  obtain ⟨h1, h2, vs, h3, h4, h5⟩ := h
  refine ⟨he.get h1 hm, h2.keep he hF, vs, he.get h3 hg, h4, fun k w hw => (h5 k w hw).imp id fun ⟨i, a, q1, q2, q3⟩ => ⟨i, a, q1, q2, IsRow.keep q3 (loc_e1 _ _) (he.agree fun y hy e => hy.2 (e ▸ hd))⟩⟩

theorem bools_val {F : Nat → Prop} {H : AH} {r : V} {n : Nat} {p : Nat → Bool} {Q : PS} (h : IsBools F H r (bl n p)) (he : ∀ b, b < n → (p b = true ↔ Q b)) : IsBools F H r (bl n (dB Q)) := by rwa [bl_dB' he] at h

theorem rep_bools (n : Nat) : rep n [V.bool false] = bV n fun _ => false := by
  unfold rep; rw [show (List.replicate n [V.bool false]).flatten = List.replicate n (V.bool false) by simp, bV_rep]

section
variable {F : Nat → Prop} {mb gb : Nat} {v : V} {x : List Nd} {t : List UInt8} (hok : ∀ i n, x[i]? = some n → NodeOk n i) (hxl : x.length ≤ 300) (htl : t.length ≤ 300) (hFg : ∀ y, F y → y < gb) (hmg : mb ≠ gb)

include hok htl hFg in
theorem again_of {i : Nat} (hi : i < x.length) (he : EndsC F mb gb v x t i) {A : Nat → Prop} {H : AH} {w : V} {P : PS} (hA : ∀ y, A y → y < H.length) (hM : Memo F A mb gb v x t H) (hw : IsBools (notB gb A) H w (bl (t.length + 1) (dB P))) (hP : ∀ a, P a → a ≤ t.length) :
    CallsA prog spec_l4Memo_again [.ptr mb 0, .int .i64 i, w] H fun r H' => MemoPost F A mb gb v x t H (star (En x t i) P) r H' := by
  have hw0 := hw
  obtain ⟨fb, fi, fc, rfl, -⟩ := bRow_cell hw
  obtain ⟨vs, hg, -⟩ := hM.got
  have hgl := get_lt hg
  have hml := get_lt hM.cell
  have hle := En_le (t := t) hok i hi
  refine spec_l4Memo_again_in fun D hD => ?_
  rw [spec_l4Memo_again_eq hD]
  refine (c_l4Or hw0 hw0).use ?_
  rintro r0 H1 ⟨hr0, hE1⟩
  have hr1 : IsBools (notB gb (fun y => A y ∨ y = H1.length)) H1 r0 (bl (t.length + 1) (dB P)) := bools_val ((bools_lt hr0).mono fun y hy => ⟨by omega, fun hh => hh.elim (fun ha => by have := hA y ha; omega) fun hh => by omega⟩) fun b _ => by simp [dB_iff]
  have hM1 : Memo F (fun y => A y ∨ y = H1.length) mb gb v x t H1 := (hM.keep0 hE1).more fun y hy => by omega
  have hr1' := hr1
  obtain ⟨ob0, oi0, oc0, rfl, -⟩ := bRow_cell hr1
  refine asSlI ?_
  rw [tn, rep_bools]
  refine ⟨⟨by omega, by omega, by omega, by omega⟩, ?_⟩
  have hl1 := hE1.1
  have hE12 : Ext0 H1 (H1 ++ [Blk.cells (bV (t.length + 1) fun _ => false) false]) := Ext.app _ _ _
  refine loopUp (σ := V) (t.length + 1) (fun k o => [(9, .int .i64 k), (1, .int .i64 i), (0, .ptr mb 0), (7, o), (8, .sl H1.length 0 (t.length + 1) (.ex (t.length + 1)))])
    (fun k o H' => Ext (fun y => y = gb) H H' ∧ Memo F (fun y => A y ∨ y = H1.length) mb gb v x t H' ∧ (∃ q, H'[H1.length]? = some (.cells (bV (t.length + 1) q) false) ∧ ∀ j, k ≤ j → j < t.length + 1 → q j = false) ∧
      ∃ Q : PS, IsBools (notB gb (fun y => A y ∨ y = H1.length)) H' o (bl (t.length + 1) (dB Q)) ∧ (∀ b, P b → Q b) ∧ (∀ b, Q b → star (En x t i) P b) ∧ (∀ a b, a < k → Q a → En x t i a b → Q b) ∧ ∀ b, Q b → b ≤ t.length) _ rfl
    ⟨(hE1.trans hE12).of0, hM1.keep0 hE12, ⟨_, get_new _ _, fun _ _ _ => rfl⟩, P, hr1'.keep0 hE12, fun _ h => h, fun b h => ⟨0, b, h, rfl⟩, fun a b h => by omega, hP⟩ ?_
  rintro k o H2 hk ⟨hE2, hM2, ⟨q, hq, hq0⟩, Q, hQ, q1, q2, q3, q4⟩
  have hQ0 := hQ
  obtain ⟨ob, oi, oc, rfl, -, -, hcell⟩ := bRow_cell hQ
  rw [L_spec_l4Memo_again_2_eq hD]
  refine splD (fun h => ?_) (fun h => ?_)
  · have hkl : k < t.length + 1 := by omega
    have J4 : ∀ (H' : AH) (ob oi on : Nat) (oc : Cap) (Q : PS), Ext (fun y => y = gb) H H' → Memo F (fun y => A y ∨ y = H1.length) mb gb v x t H' → (∃ q, H'[H1.length]? = some (.cells (bV (t.length + 1) q) false) ∧ ∀ j, k + 1 ≤ j → j < t.length + 1 → q j = false) →
        IsBools (notB gb (fun y => A y ∨ y = H1.length)) H' (.sl ob oi on oc) (bl (t.length + 1) (dB Q)) → (∀ b, P b → Q b) → (∀ b, Q b → star (En x t i) P b) → (∀ a b, a < k + 1 → Q a → En x t i a b → Q b) → (∀ b, Q b → b ≤ t.length) →
        J_spec_l4Memo_again_4 D (fun r H' => MemoPost F A mb gb v x t H (star (En x t i) P) r H') (Nxt (t.length + 1) (fun k o => [(9, .int .i64 k), (1, .int .i64 i), (0, .ptr mb 0), (7, o), (8, .sl H1.length 0 (t.length + 1) (.ex (t.length + 1)))])
    (fun k o H' => Ext (fun y => y = gb) H H' ∧ Memo F (fun y => A y ∨ y = H1.length) mb gb v x t H' ∧ (∃ q, H'[H1.length]? = some (.cells (bV (t.length + 1) q) false) ∧ ∀ j, k ≤ j → j < t.length + 1 → q j = false) ∧
      ∃ Q : PS, IsBools (notB gb (fun y => A y ∨ y = H1.length)) H' o (bl (t.length + 1) (dB Q)) ∧ (∀ b, P b → Q b) ∧ (∀ b, Q b → star (En x t i) P b) ∧ (∀ a b, a < k → Q a → En x t i a b → Q b) ∧ ∀ b, Q b → b ≤ t.length) k)
          [(9, .int .i64 k), (1, .int .i64 i), (0, .ptr mb 0), (7, .sl ob oi on oc), (8, .sl H1.length 0 (t.length + 1) (.ex (t.length + 1)))] H' := by
      intro H' ob oi on oc Q h1 h2 h3 h4 h5 h6 h7 h8
      rw [J_spec_l4Memo_again_4_eq hD, inc (by omega)]
      exact nxt _ hkl rfl ⟨h1, h2, h3, Q, h4, h5, h6, h7, h8⟩
    have hkc : H2.cell ob (oi + k * 1) = _ := hcell k hkl
    have hqc : H2.cell H1.length (0 + k * 1) = some (.bool (q k)) := by rw [Nat.zero_add, Nat.mul_one]; exact bcell hq hkl
    rw [J_spec_l4Memo_again_3_eq hD, tn]
    refine ⟨⟨by omega, by omega⟩, ldBool hkc (splNot (fun hp => ?_) (fun hp => ⟨⟨by omega, by omega⟩, ldBool hqc ?_⟩))⟩
    · rw [J_spec_l4Memo_again_6_eq hD]
      refine splT rfl (J4 H2 _ _ _ _ Q hE2 hM2 ⟨q, hq, fun j h1 h2 => hq0 j (by omega) h2⟩ hQ0 q1 q2 (fun a b h1 h2 h3 => ?_) q4)
      by_cases hak : a = k
      · subst hak; exact absurd h2 (dB_false.1 hp)
      · exact q3 a b (by omega) h2 h3
    · have hQk := dB_iff.1 hp
      rw [J_spec_l4Memo_again_6_eq hD]
      refine splF (hq0 k (Nat.le_refl _) hkl) ?_
      rw [J_spec_l4Memo_again_5_eq hD, tn]
      refine ⟨⟨by omega, by omega⟩, bst (fun j => if j = 0 + k * 1 then true else q j) hq (by omega) (fun _ _ => rfl) ?_⟩
      generalize hS : H2.set H1.length (.cells (bV (t.length + 1) fun j => if j = 0 + k * 1 then true else q j) false) = S
      have hES : Ext (fun y => y = H1.length) H2 S := by rw [← hS]; exact Ext.set _ _ _ rfl
      have hSd : S[H1.length]? = some (.cells (bV (t.length + 1) fun j => if j = 0 + k * 1 then true else q j) false) := by rw [← hS]; exact get_set _ (get_lt hq)
      have hMS := hM2.keepA hES (.inr rfl) (by omega) (by omega) (fun y hy => by have := hFg y hy; omega)
      have hQS : IsBools (notB gb (fun y => A y ∨ y = H1.length)) S _ _ := IsRow.keep hQ0 (loc_e1 _ _) (hES.agree fun y hy e => hy.2 (.inr e))
      have hESH : Ext (fun y => y = gb) H S := hE2.new (hES.mono fun y _ hy => .inr (by omega))
      have hSl : H1.length < S.length := get_lt hSd
      refine (he (fun y => A y ∨ y = H1.length) S k (fun y hy => hy.elim (fun ha => by have := hA y ha; omega) fun hh => by omega) hMS (by omega)).use ?_
      rintro r H3 ⟨hr, hE3, hM3⟩
      have hr' := hr
      obtain ⟨rb', ri, rc, rfl, -⟩ := bRow_cell hr
      refine asSlI ((c_l4Or (hQS.keepG hE3) hr').use ?_)
      rintro r2 H4 ⟨hr2, hE4⟩
      have hl3 := hE3.1
      obtain ⟨vs3, hg3, -⟩ := hM3.got
      have hr3 := bools_val (Q := fun b => Q b ∨ En x t i k b) (fresh_notB (A := fun y => A y ∨ y = H1.length) hr2 (get_lt hg3) (fun y hy => hy.elim (fun ha => by have := hA y ha; omega) fun hh => by omega)) (fun b _ => by rw [Bool.or_eq_true, dB_iff, dB_iff])
      have hr3' := hr3
      obtain ⟨rb2, ri2, rc2, rfl, -⟩ := bRow_cell hr3
      refine asSlI (J4 H4 _ _ _ _ (fun b => Q b ∨ En x t i k b) ((hESH.trans hE3).trans hE4.of0) (hM3.keep0 hE4) ⟨_, hE4.get (hE3.get hSd (by omega)) id, fun j h1 h2 => ?_⟩ hr3' (fun b h => .inl (q1 b h)) (fun b h => ?_) (fun a b h1 h2 h3 => ?_) (fun b h => ?_))
      · rw [if_neg (by omega)]; exact hq0 j (by omega) h2
      · rcases h with h | h
        · exact q2 b h
        · obtain ⟨m, a, ha, hp⟩ := q2 k hQk
          exact ⟨m + 1, a, ha, k, hp, h⟩
      · by_cases hak : a = k
        · subst hak; exact .inr h3
        · rcases h2 with h2 | h2
          · exact .inl (q3 a b (by omega) h2 h3)
          · have := (hle k a (by omega) h2).1; omega
      · rcases h with h | h
        · exact q4 b h
        · exact (hle k b (by omega) h).2
  · rw [J_spec_l4Memo_again_1_eq hD]
    refine ⟨?_, hE2, hM2.less⟩
    have := bools_val (Q := star (En x t i) P) hQ0 fun b _ => by
      rw [dB_iff]
      exact (star_of q1 q2 fun a b h1 h2 => q3 a b (by have := q4 a h1; omega) h1 h2).symm
    exact this.mono fun y hy => ⟨hy.1, fun ha => hy.2 (.inl ha)⟩

end

end Go.Proofs.YtpjkammmoaeheaaDoor.Aw

/- Contracts: the reference's ends of matches: a node, all nodes, the list of ends. -/
set_option linter.unusedSimpArgs false
set_option linter.unusedVariables false
set_option linter.unusedSectionVars false
set_option maxRecDepth 10000
namespace Go.Proofs.YtpjkammmoaeheaaDoor.Aw
open Go Go.RowKit

theorem pw_img {R : Rel} {a k b : Nat} : img R (pw R k a) b ↔ pw R (k + 1) a b := Iff.rfl

section
variable {F : Nat → Prop} {mb gb : Nat} {v : V} {x : List Nd} {t : List UInt8} (hok : ∀ i n, x[i]? = some n → NodeOk n i) (hxl : x.length ≤ 300) (htl : t.length ≤ 300) (hFg : ∀ y, F y → y < gb) (hmg : mb ≠ gb)

include hok hxl htl hFg hmg in
theorem find_of {i : Nat} (hi : i < x.length) (he : ∀ j, j < i → EndsC F mb gb v x t j) : FindC F mb gb v x t i := by
  intro A H a hA hM ha
  have hx := hM.nodes
  have hx0 := hx
  obtain ⟨xb, xi, xc, rfl, -⟩ := hx
  obtain ⟨nd, hnd⟩ : ∃ nd, x[i]? = some nd := ⟨_, List.getElem?_eq_getElem hi⟩
  have okn := hok i nd hnd
  obtain ⟨sb, si, sc, kb, ki, kc, c0, c1, c2, c3, c4, hset, hkids⟩ := (hx0.at hnd).read
  obtain ⟨vs, hg, -⟩ := hM.got
  have hgl := get_lt hg
  refine spec_l4Memo_find_in fun D hD => ?_
  rw [spec_l4Memo_find_eq hD, tn, tn]
  refine ldSl (cell_of (i := 0) hM.cell rfl) ⟨⟨by omega, by omega⟩, ldInt c0 (ldSl c1 (ldSl c2 (ldInt c3 (ldInt c4 (stAll (get_new _ _) rfl ?_)))))⟩
  generalize hG : (H ++ [Blk.cells [V.int .i64 0, .sl 0 0 0 .nil, .sl 0 0 0 .nil, .int .i64 0, .int .i64 0] false]).set H.length (.cells [V.int .i64 nd.op, .sl sb si nd.set.length sc, .sl kb ki nd.kids.length kc, .int .i64 nd.mn, .int .i64 nd.mx] false) = G
  have hEG : Ext0 H G := by rw [← hG]; exact (Ext.app (fun _ => False) _ _).new (Ext.set _ _ _ (.inr (Nat.le_refl _)))
  have gN : G[H.length]? = some (.cells [V.int .i64 nd.op, .sl sb si nd.set.length sc, .sl kb ki nd.kids.length kc, .int .i64 nd.mn, .int .i64 nd.mx] false) := by rw [← hG]; exact get_set _ (by simp)
  have lG : G.length = H.length + 1 := by rw [← hG]; simp
  have mt : ∀ {H' : AH}, Ext0 H H' → H'.cell mb (0 + 1) = some (.str t) := fun h => h.cell (cell_of (i := 1) hM.cell rfl) id
  refine ldStr (mt hEG) ?_
  rw [inc (by omega), tn, rep_bools]
  have hEG1 : Ext0 H (G ++ [Blk.cells (bV (t.length + 1) fun _ => false) false]) := hEG.trans (Ext.app _ _ _)
  refine ⟨⟨by omega, by omega, by omega, by omega⟩, ldStr (mt hEG1) ?_⟩
  have l1 : (G ++ [Blk.cells (bV (t.length + 1) fun _ => false) false]).length = H.length + 2 := by simp [lG]
  rw [inc (by omega), tn, rep_bools, l1, lG]
  refine ⟨⟨by omega, by omega, by omega, by omega⟩, ⟨by omega, by omega⟩, ?_⟩
  refine bst (fun b => decide (b = a)) (p := fun _ => false) (by rw [← l1]; exact get_new _ _) (by omega) (fun b _ => by by_cases h : b = 0 + a * 1 <;> simp [h]) ?_
  generalize hT : (G ++ [Blk.cells (bV (t.length + 1) fun _ => false) false] ++ [Blk.cells (bV (t.length + 1) fun _ => false) false]).set (H.length + 2) (.cells (bV (t.length + 1) fun b => decide (b = a)) false) = T
  have hET : Ext0 H T := by rw [← hT]; exact (hEG1.trans (Ext.app _ _ _)).new (Ext.set _ _ _ (.inr (by omega)))
  have tO : T[H.length + 1]? = some (.cells (bV (t.length + 1) fun _ => false) false) := by
    rw [← hT, List.getElem?_set_ne (by omega), List.getElem?_append_left (by omega), ← lG]; exact get_new _ _
  have tW : T[H.length + 2]? = some (.cells (bV (t.length + 1) fun b => decide (b = a)) false) := by rw [← hT]; exact get_set _ (by simp [lG])
  have tN : T[H.length]? = some (.cells [V.int .i64 nd.op, .sl sb si nd.set.length sc, .sl kb ki nd.kids.length kc, .int .i64 nd.mn, .int .i64 nd.mx] false) := by
    rw [← hT, List.getElem?_set_ne (by omega), List.getElem?_append_left (by omega), List.getElem?_append_left (by omega)]; exact gN
  have freshN : ∀ y, H.length ≤ y → notB gb A y := fun y hy => ⟨by omega, fun h => by have := hA y h; omega⟩
  have hMT := hM.keep0 hET
  have hone : IsBools (notB gb A) T (.sl (H.length + 2) 0 (t.length + 1) (.ex (t.length + 1))) (bl (t.length + 1) (dB fun b => a = b)) := bools_val (bRow tW (freshN _ (by omega)) (by omega)) fun b _ => by simp [eq_comm]
  have hout : IsBools (notB gb A) T (.sl (H.length + 1) 0 (t.length + 1) (.ex (t.length + 1))) (bl (t.length + 1) (dB fun b => False)) := bools_val (bRow tO (freshN _ (by omega)) (by omega)) fun b _ => by simp
  -- states
  let S (G : AH) : Prop := Ext (fun y => y = gb) H G ∧ Memo F A mb gb (.sl xb xi x.length xc) x t G ∧ G[H.length]? = some (.cells [V.int .i64 nd.op, .sl sb si nd.set.length sc, .sl kb ki nd.kids.length kc, .int .i64 nd.mn, .int .i64 nd.mx] false)
  have hST : S T := ⟨hET.of0, hMT, tN⟩
  have n0 : ∀ {G : AH}, S G → G.cell H.length 0 = some (.int .i64 nd.op) := fun h => cell_of (i := 0) h.2.2 rfl
  have n1 : ∀ {G : AH}, S G → G.cell H.length 1 = some (.sl sb si nd.set.length sc) := fun h => cell_of (i := 1) h.2.2 rfl
  have n2 : ∀ {G : AH}, S G → G.cell H.length 2 = some (.sl kb ki nd.kids.length kc) := fun h => cell_of (i := 2) h.2.2 rfl
  have n3 : ∀ {G : AH}, S G → G.cell H.length 3 = some (.int .i64 nd.mn) := fun h => cell_of (i := 3) h.2.2 rfl
  have n4 : ∀ {G : AH}, S G → G.cell H.length 4 = some (.int .i64 nd.mx) := fun h => cell_of (i := 4) h.2.2 rfl
  have kk : ∀ {G : AH}, S G → ∀ {m z}, nd.kids[m]? = some z → G.cell kb (ki + m * 1) = some (.int .i64 z) := fun h => fun hz =>
    IsInts.at (IsRow.keep hkids (loc_e1 _ _) (h.1.agree fun y hy => Nat.ne_of_lt (hFg y hy))) hz
  have pS : ∀ {G G' : AH} {P : PS} {r : V}, S G → MemoPost F A mb gb (.sl xb xi x.length xc) x t G P r G' → S G' := fun h hp => ⟨h.1.trans hp.2.1, hp.2.2, hp.2.1.get h.2.2 (by omega)⟩
  have eS : ∀ {G G' : AH}, S G → Ext0 G G' → S G' := fun h hp => ⟨h.1.trans hp.of0, h.2.1.keep0 hp, hp.get h.2.2 id⟩
  have hAS : ∀ {G : AH}, S G → ∀ y, A y → y < G.length := fun h y hy => Nat.lt_of_lt_of_le (hA y hy) h.1.1
  have done : ∀ {G G' : AH} {P : PS} {r : V}, S G → MemoPost F A mb gb (.sl xb xi x.length xc) x t G P r G' → (∀ b, P b ↔ En x t i a b) → MemoPost F A mb gb (.sl xb xi x.length xc) x t H (En x t i a) r G' := fun h hp e =>
    ⟨bools_val hp.1 fun b _ => by rw [dB_iff]; exact e b, h.1.trans hp.2.1, hp.2.2⟩
  -- calls about a kid
  have kidE : ∀ {z : Int} {G : AH}, z ∈ nd.kids → S G → CallsA prog spec_l4Memo_ends [.ptr mb 0, .int .i64 z, .int .i64 a] G fun r H' => MemoPost F A mb gb (.sl xb xi x.length xc) x t G (En x t z.toNat a) r H' := fun {z G} hz hS => by
    have h := okn.kid z hz
    have e : z = ((z.toNat : Nat) : Int) := by omega
    have := he z.toNat (by omega) A G a (hAS hS) hS.2.1 ha
    rwa [← e] at this
  have kidle : ∀ {z : Int}, z ∈ nd.kids → ∀ a b, a ≤ t.length → En x t z.toNat a b → a ≤ b ∧ b ≤ t.length := fun {z} hz => by
    have h := okn.kid z hz
    exact En_le hok z.toNat (by omega)
  have kidS : ∀ {z : Int} {G : AH} {w : V} {P : PS}, z ∈ nd.kids → S G → IsBools (notB gb A) G w (bl (t.length + 1) (dB P)) → (∀ a, P a → a ≤ t.length) → CallsA prog spec_l4Memo_step [.ptr mb 0, .int .i64 z, w] G fun r H' => MemoPost F A mb gb (.sl xb xi x.length xc) x t G (img (En x t z.toNat) P) r H' := fun {z G w P} hz hS hw hP => by
    have h := okn.kid z hz
    have e : z = ((z.toNat : Nat) : Int) := by omega
    have := step_of htl (he z.toNat (by omega)) (hAS hS) hS.2.1 hw hP
    rwa [← e] at this
  have kidA : ∀ {z : Int} {G : AH} {w : V} {P : PS}, z ∈ nd.kids → S G → IsBools (notB gb A) G w (bl (t.length + 1) (dB P)) → (∀ a, P a → a ≤ t.length) → CallsA prog spec_l4Memo_again [.ptr mb 0, .int .i64 z, w] G fun r H' => MemoPost F A mb gb (.sl xb xi x.length xc) x t G (star (En x t z.toNat) P) r H' := fun {z G w P} hz hS hw hP => by
    have h := okn.kid z hz
    have e : z = ((z.toNat : Nat) : Int) := by omega
    have := again_of hok htl hFg (by omega) (he z.toNat (by omega)) (hAS hS) hS.2.1 hw hP
    rwa [← e] at this
  have orC : ∀ {G : AH} {wa wb : V} {P Q : PS}, S G → IsBools (notB gb A) G wa (bl (t.length + 1) (dB P)) → IsBools (notB gb A) G wb (bl (t.length + 1) (dB Q)) → CallsA prog spec_l4Or [wa, wb] G fun r G' => MemoPost F A mb gb (.sl xb xi x.length xc) x t G (fun b => P b ∨ Q b) r G' := fun {G wa wb P Q} hS h1 h2 =>
    (c_l4Or h1 h2).mono fun r G' ⟨hr, hE⟩ => ⟨bools_val (fresh_notB (A := A) hr (by have := hS.1.1; omega) (hAS hS)) fun b _ => by rw [Bool.or_eq_true, dB_iff, dB_iff], hE.of0, hS.2.1.keep0 hE⟩
  have hone_le : ∀ b, a = b → b ≤ t.length := fun b h => by omega
  refine ldInt (n0 hST) (splE (fun h1 => ?_) (fun h1 => splE (fun h2 => ?_) (fun h2 => splE (fun h3 => ?_) (fun h3 => splE (fun h4 => ?_) (fun h4 => splE (fun h5 => ?_) (fun h5 => splE (fun h6 => ?_) (fun h6 => splE (fun h7 => ?_) (fun h7 => splE (fun h8 => ?_) (fun h8 => by have := okn.op1; have := okn.op8; omega)))))))))
  · exact ⟨bools_val hone fun b _ => by rw [dB_iff, En1 hok hnd h1], hET.of0, hMT⟩
  · -- a set
    obtain ⟨okS, -⟩ := okn.set h2
    have J1 : ∀ (G : AH) (q : Nat → Bool), Ext0 H G → G[H.length + 1]? = some (.cells (bV (t.length + 1) q) false) → (∀ b, b < t.length + 1 → (q b = true ↔ En x t i a b)) → J_spec_l4Memo_find_1 D (fun r H' => MemoPost F A mb gb (.sl xb xi x.length xc) x t H (En x t i a) r H') [(8, .sl (H.length + 1) 0 (t.length + 1) (.ex (t.length + 1)))] G := by
      intro G q hE hq he
      rw [J_spec_l4Memo_find_1_eq hD]
      exact ⟨bools_val (bRow hq (freshN _ (by omega)) (by omega)) he, hE.of0, hM.keep0 hE⟩
    have hE2 : ∀ b, En x t i a b ↔ ∃ c, t[a]? = some c ∧ mk nd.set c.toNat = true ∧ b = a + 1 := fun b => En2 hok hnd h2
    have J2 : ∀ (z : Bool) (G : AH), Ext0 H G → G[H.length + 1]? = some (.cells (bV (t.length + 1) fun _ => false) false) → (z = true → ∃ c, t[a]? = some c ∧ mk nd.set c.toNat = true) → (z = false → ¬ ∃ c, t[a]? = some c ∧ mk nd.set c.toNat = true) → J_spec_l4Memo_find_2 D (fun r H' => MemoPost F A mb gb (.sl xb xi x.length xc) x t H (En x t i a) r H') [(63, .bool z), (2, .int .i64 a), (8, .sl (H.length + 1) 0 (t.length + 1) (.ex (t.length + 1)))] G := by
      intro z G hE hq z1 z2
      rw [J_spec_l4Memo_find_2_eq hD]
      refine spl (fun hz => ?_) (fun hz => J1 G _ hE hq fun b _ => ?_)
      · obtain ⟨c, q1, q2⟩ := z1 hz
        have hal := (List.getElem?_eq_some_iff.1 q1).1
        rw [inc (by omega), tn]
        refine ⟨⟨by omega, by omega⟩, bst (fun b => decide (b = a + 1)) hq (by omega) (fun b _ => by by_cases h : b = 0 + (a + 1) * 1 <;> simp [h]) (J1 _ _ (hE.new (Ext.set _ _ _ (.inr (by omega)))) (get_set _ (get_lt hq)) fun b _ => ?_)⟩
        rw [hE2, decide_eq_true_iff]
        exact ⟨fun h => ⟨c, q1, q2, h⟩, fun ⟨_, _, _, h⟩ => h⟩
      · rw [hE2]
        exact ⟨fun h => by simp at h, fun ⟨c, q1, q2, _⟩ => absurd ⟨c, q1, q2⟩ (z2 hz)⟩
    refine ldStr (mt hET) (splD (fun hlt => ldSl (n1 hST) (ldStr (mt hET) ⟨⟨by omega, by omega⟩, (c_l1Marks (hset.keep0 hET) okS).use ?_⟩)) (fun hlt => J2 false T hET tO (fun h => by cases h) fun _ ⟨c, q1, _⟩ => by have := (List.getElem?_eq_some_iff.1 q1).1; omega))
    rintro _ G3 ⟨rfl, hm, hE3⟩
    have hal : a < t.length := by omega
    have hx : byteAt t a = t[a] := by simp [byteAt, hal]
    have h256 : (t[a]).toNat < 256 := (t[a]).toNat_lt
    have q1 : t[a]? = some t[a] := List.getElem?_eq_getElem hal
    have hEH3 := hET.trans hE3
    rw [hx, tn]
    refine asSlI ⟨mt hEH3, ⟨by omega, by omega⟩, ?_⟩
    rw [Nat.zero_add, Nat.mul_one]
    refine ldBool (bcell hm h256) (J2 _ G3 hEH3 (hE3.get tO id) (fun h => ⟨_, q1, h⟩) fun h ⟨c, e1, e2⟩ => ?_)
    rw [q1] at e1; cases e1
    rw [h] at e2; cases e2
  · -- one behind the other
    obtain ⟨y, z, hyz⟩ := kids2 okn (.inl h3)
    have k0 : ∀ {G : AH}, S G → G.cell kb ki = some (.int .i64 y) := fun h => by have := kk h (m := 0) (z := y) (by rw [hyz]; rfl); rwa [Nat.zero_mul, Nat.add_zero] at this
    have k1 : ∀ {G : AH}, S G → G.cell kb (ki + 1) = some (.int .i64 z) := fun h => by have := kk h (m := 1) (z := z) (by rw [hyz]; rfl); rwa [Nat.one_mul] at this
    have hkl : nd.kids.length = 2 := by rw [hyz]; rfl
    refine ldSl (n2 hST) ⟨⟨by omega, by omega⟩, ldInt (k1 hST) (ldSl (n2 hST) ⟨⟨by omega, by omega⟩, ldInt (k0 hST) ((kidE (by rw [hyz]; simp) hST).use ?_)⟩)⟩
    rintro r G hp
    have hS := pS hST hp
    have hr := hp.1
    obtain ⟨_, _, _, rfl, -⟩ := hp.1
    refine asSlI ⟨k1 hS, n2 hS, (kidS (by rw [hyz]; simp) hS hr fun b hb => (kidle (by rw [hyz]; simp) a b ha hb).2).use ?_⟩
    rintro r2 G2 hp2
    obtain ⟨_, _, _, rfl, -⟩ := hp2.1
    exact asSlI (done hS hp2 fun b => (En3 hok hnd h3 hyz).symm)
  · -- one of two
    obtain ⟨y, z, hyz⟩ := kids2 okn (.inr h4)
    have k0 : ∀ {G : AH}, S G → G.cell kb ki = some (.int .i64 y) := fun h => by have := kk h (m := 0) (z := y) (by rw [hyz]; rfl); rwa [Nat.zero_mul, Nat.add_zero] at this
    have k1 : ∀ {G : AH}, S G → G.cell kb (ki + 1) = some (.int .i64 z) := fun h => by have := kk h (m := 1) (z := z) (by rw [hyz]; rfl); rwa [Nat.one_mul] at this
    have hkl : nd.kids.length = 2 := by rw [hyz]; rfl
    refine ldSl (n2 hST) ⟨⟨by omega, by omega⟩, ldInt (k0 hST) (ldSl (n2 hST) ⟨⟨by omega, by omega⟩, ldInt (k1 hST) ((kidE (by rw [hyz]; simp) hST).use ?_)⟩)⟩
    rintro r G hp
    have hS := pS hST hp
    have hr := hp.1
    obtain ⟨_, _, _, rfl, -⟩ := hp.1
    refine asSlI ⟨k1 hS, n2 hS, (kidE (by rw [hyz]; simp) hS).use ?_⟩
    rintro r2 G2 hp2
    have hS2 := pS hS hp2
    have hr2 := hp2.1
    obtain ⟨_, _, _, rfl, -⟩ := hp2.1
    refine asSlI ((orC hS2 (hr.keepG hp2.2.1) hr2).use ?_)
    rintro r3 G3 hp3
    obtain ⟨_, _, _, rfl, -⟩ := hp3.1
    exact asSlI (done hS2 hp3 fun b => (En4 hok hnd h4 hyz).symm)
  all_goals
    obtain ⟨z, hz⟩ := kids1 okn (by omega)
    have hzm : z ∈ nd.kids := by rw [hz]; simp
    have k0 : ∀ {G : AH}, S G → G.cell kb ki = some (.int .i64 z) := fun h => by have := kk h (m := 0) (z := z) (by rw [hz]; rfl); rwa [Nat.zero_mul, Nat.add_zero] at this
    have hkl : nd.kids.length = 1 := by rw [hz]; rfl
    have hle := kidle hzm
  · -- any number of times
    refine ldSl (n2 hST) ⟨⟨by omega, by omega⟩, ldInt (k0 hST) ((kidA hzm hST hone hone_le).use ?_)⟩
    rintro r G hp
    obtain ⟨_, _, _, rfl, -⟩ := hp.1
    refine asSlI (done hST hp fun b => ?_)
    rw [En5 hok hnd h5 hz]
    exact ⟨fun ⟨k, c, hc, hp⟩ => by subst hc; exact ⟨k, hp⟩, fun ⟨k, hp⟩ => ⟨k, a, rfl, hp⟩⟩
  · refine ldSl (n2 hST) ⟨⟨by omega, by omega⟩, ldInt (k0 hST) (ldSl (n2 hST) ⟨⟨by omega, by omega⟩, ldInt (k0 hST) ((kidE hzm hST).use ?_)⟩)⟩
    rintro r G hp
    have hS := pS hST hp
    have hr := hp.1
    obtain ⟨_, _, _, rfl, -⟩ := hp.1
    refine asSlI ⟨k0 hS, n2 hS, (kidA hzm hS hr fun b hb => (hle a b ha hb).2).use ?_⟩
    rintro r2 G2 hp2
    obtain ⟨_, _, _, rfl, -⟩ := hp2.1
    refine asSlI (done hS hp2 fun b => ?_)
    rw [En6 hok hnd h6 hz]
    constructor
    · rintro ⟨k, c, hc, hp⟩
      have := pw_add (pw_one.2 hc) hp
      rw [Nat.add_comm] at this
      exact ⟨k, this⟩
    · rintro ⟨k, hp⟩
      rw [Nat.add_comm] at hp
      obtain ⟨c, q1, q2⟩ := pw_split hp
      exact ⟨k, c, pw_one.1 q1, q2⟩
  · refine ldSl (n2 hST) ⟨⟨by omega, by omega⟩, ldInt (k0 hST) ((kidE hzm hST).use ?_)⟩
    rintro r G hp
    have hS := pS hST hp
    have hr := hp.1
    obtain ⟨_, _, _, rfl, -⟩ := hp.1
    refine asSlI ((orC hS (hone.keepG hp.2.1) hr).use ?_)
    rintro r2 G2 hp2
    obtain ⟨_, _, _, rfl, -⟩ := hp2.1
    exact asSlI (done hS hp2 fun b => (En7 hok hnd h7 hz).symm)
  · -- between two counts
    obtain ⟨m0, m30, hmx⟩ := okn.times h8
    have ple : ∀ k b, pw (En x t z.toNat) k a b → b ≤ t.length := fun k b h => (pw_le hle k ha h).2
    refine loopUp (σ := V) nd.mn.toNat (fun k o => [(9, o), (10, .int .i64 k), (8, .sl (H.length + 1) 0 (t.length + 1) (.ex (t.length + 1))), (0, .ptr mb 0), (7, .ptr H.length 0)])
      (fun k o G => S G ∧ IsBools (notB gb A) G o (bl (t.length + 1) (dB (pw (En x t z.toNat) k a))) ∧ IsBools (notB gb A) G (.sl (H.length + 1) 0 (t.length + 1) (.ex (t.length + 1))) (bl (t.length + 1) (dB fun b => False))) _ rfl ⟨hST, hone, hout⟩ ?_
    rintro k o G hk ⟨hS, ho, hu⟩
    have ho0 := ho
    obtain ⟨ob, oi, oc, rfl, -⟩ := bRow_cell ho
    rw [L_spec_l4Memo_find_4_eq hD]
    refine ldInt (n3 hS) (splD (fun h => ?_) (fun h => ?_))
    · rw [J_spec_l4Memo_find_5_eq hD]
      refine ldSl (n2 hS) ⟨⟨by omega, by omega⟩, ldInt (k0 hS) ((kidS hzm hS ho0 (ple k)).use ?_)⟩
      rintro r G2 hp
      have hr := hp.1
      obtain ⟨_, _, _, rfl, -⟩ := hp.1
      refine asSlI ?_
      rw [J_spec_l4Memo_find_6_eq hD, inc (by omega)]
      exact nxt _ (by omega) rfl ⟨pS hS hp, hr, hu.keepG hp.2.1⟩
    · have hkm : k = nd.mn.toNat := by omega
      rw [J_spec_l4Memo_find_3_eq hD]
      refine ldInt (n4 hS) (splD (fun hneg => ?_) (fun hneg => ?_))
      · refine ldSl (n2 hS) ⟨⟨by omega, by omega⟩, ldInt (k0 hS) ((kidA hzm hS ho0 (ple k)).use ?_)⟩
        rintro r G2 hp
        obtain ⟨_, _, _, rfl, -⟩ := hp.1
        refine asSlI (done hS hp fun b => ?_)
        rw [En8 hok hnd h8 hz]
        constructor
        · rintro ⟨j, c, hc, hp⟩
          exact ⟨k + j, by omega, .inl (by omega), pw_add hc hp⟩
        · rintro ⟨j, q1, _, hp⟩
          have : j = k + (j - k) := by omega
          rw [this] at hp
          obtain ⟨c, q3, q4⟩ := pw_split hp
          exact ⟨j - k, c, q3, q4⟩
      · have hmm : nd.mn ≤ nd.mx ∧ nd.mx ≤ 30 := by omega
        rw [J_spec_l4Memo_find_7_eq hD]
        refine (orC hS hu ho0).use ?_
        rintro r G2 hp
        have hS2 := pS hS hp
        have hr := hp.1
        obtain ⟨_, _, _, rfl, -⟩ := hp.1
        refine asSlI (ldInt (n3 hS2) ?_)
        refine loopUp (σ := V × V) (nd.mx - nd.mn).toNat (fun j s => [(9, s.1), (8, s.2), (11, .int .i64 (nd.mn + (j : Int))), (0, .ptr mb 0), (7, .ptr H.length 0)])
          (fun j s G => S G ∧ IsBools (notB gb A) G s.1 (bl (t.length + 1) (dB (pw (En x t z.toNat) (k + j) a))) ∧ IsBools (notB gb A) G s.2 (bl (t.length + 1) (dB fun b => ∃ l, k ≤ l ∧ l ≤ k + j ∧ pw (En x t z.toNat) l a b))) (_, _) (by simp)
          ⟨hS2, ho0.keepG hp.2.1, bools_val hr fun b _ => by
            rw [dB_iff]
            exact ⟨fun h => h.elim False.elim fun h => ⟨k, by omega, by omega, h⟩, fun ⟨l, q1, q2, q3⟩ => .inr (by rw [show k = l by omega]; exact q3)⟩⟩ ?_
        rintro j ⟨o, u⟩ G3 hj ⟨hS3, ho3, hu3⟩
        simp only at ho3 hu3 ⊢
        have ho30 := ho3
        have hu30 := hu3
        obtain ⟨ob3, oi3, oc3, rfl, -⟩ := bRow_cell ho3
        obtain ⟨ub3, ui3, uc3, rfl, -⟩ := bRow_cell hu3
        rw [L_spec_l4Memo_find_8_eq hD]
        refine ldInt (n4 hS3) (splD (fun hl => ?_) (fun hl => ?_))
        · rw [J_spec_l4Memo_find_9_eq hD]
          refine ldSl (n2 hS3) ⟨⟨by omega, by omega⟩, ldInt (k0 hS3) ((kidS hzm hS3 ho30 (ple _)).use ?_)⟩
          rintro r G4 hp4
          have hS4 := pS hS3 hp4
          have hr4 := hp4.1
          obtain ⟨_, _, _, rfl, -⟩ := hp4.1
          refine asSlI ((orC hS4 (hu30.keepG hp4.2.1) hr4).use ?_)
          rintro r5 G5 hp5
          have hS5 := pS hS4 hp5
          have hr5 := hp5.1
          obtain ⟨_, _, _, rfl, -⟩ := hp5.1
          refine asSlI ?_
          rw [J_spec_l4Memo_find_10_eq hD, w64 (by omega) (by omega)]
          refine nxt (_, _) (by omega) (by rw [show nd.mn + (j : Int) + 1 = nd.mn + ((j + 1 : Nat) : Int) by omega]) ⟨hS5, hr4.keepG hp5.2.1, bools_val hr5 fun b _ => ?_⟩
          rw [dB_iff]
          constructor
          · rintro (⟨l, q1, q2, q3⟩ | h)
            · exact ⟨l, q1, by omega, q3⟩
            · exact ⟨k + j + 1, by omega, by omega, h⟩
          · rintro ⟨l, q1, q2, q3⟩
            by_cases hlj : l ≤ k + j
            · exact .inl ⟨l, q1, hlj, q3⟩
            · exact .inr (by rw [show l = k + j + 1 by omega] at q3; exact q3)
        · rw [J_spec_l4Memo_find_1_eq hD]
          refine ⟨bools_val hu30 fun b _ => ?_, hS3.1, hS3.2.1⟩
          rw [dB_iff, En8 hok hnd h8 hz]
          exact ⟨fun ⟨l, q1, q2, q3⟩ => ⟨l, by omega, .inr (by omega), q3⟩, fun ⟨l, q1, q2, q3⟩ => ⟨l, by omega, by omega, q3⟩⟩

include hok hxl htl hFg hmg in
theorem all_ends : ∀ i, i < x.length → EndsC F mb gb v x t i := by
  intro i
  induction i using Nat.strongRecOn with
  | _ i ih => exact fun hi => ends_of hxl htl hFg hmg hi (find_of hok hxl htl hFg hmg hi fun j hj => ih j hj (by omega))

end

end Go.Proofs.YtpjkammmoaeheaaDoor.Aw

/- Contracts: the reference's list of ends. -/
set_option linter.unusedSimpArgs false
set_option linter.unusedVariables false
set_option maxRecDepth 10000
namespace Go.Proofs.YtpjkammmoaeheaaDoor.Aw
open Go Go.RowKit

theorem spans_lt {F : Nat → Prop} {H : AH} {v : V} {l : Cls} (h : IsSpans F H v l) : IsSpans (fun y => F y ∧ y < H.length) H v l := by
  obtain ⟨b, i, c, rfl, h1, h2, h3⟩ := h
  refine ⟨b, i, c, rfl, h1, fun hl => ⟨h2 hl, ?_⟩, h3⟩
  cases l with
  | nil => exact absurd rfl hl
  | cons z l => exact cell_lt (h3 0 z rfl).1
theorem ints_lt {F : Nat → Prop} {H : AH} {v : V} {l : List Int} (h : IsInts F H v l) : IsInts (fun y => F y ∧ y < H.length) H v l := by
  obtain ⟨b, i, c, rfl, h1, h2, h3⟩ := h
  refine ⟨b, i, c, rfl, h1, fun hl => ⟨h2 hl, ?_⟩, h3⟩
  cases l with
  | nil => exact absurd rfl hl
  | cons z l => exact cell_lt (h3 0 z rfl)
theorem nodes_lt {F : Nat → Prop} {H : AH} {v : V} {x : List Nd} (h : IsNodes F H v x) : IsNodes (fun y => F y ∧ y < H.length) H v x := by
  obtain ⟨b, i, c, rfl, h1, h2, h3⟩ := h
  refine ⟨b, i, c, rfl, h1, fun hl => ⟨h2 hl, ?_⟩, fun k n hk => ?_⟩
  · cases x with
    | nil => exact absurd rfl hl
    | cons z l => obtain ⟨_, _, q, _⟩ := h3 0 z rfl; exact cell_lt q
  · obtain ⟨vs, vk, q0, q1, q2, q3, q4, q5, q6⟩ := h3 k n hk
    exact ⟨vs, vk, q0, q1, q2, q3, q4, spans_lt q5, ints_lt q6⟩

theorem rep_nils (n : Nat) : rep n [V.sl 0 0 0 .nil] = List.replicate n (V.sl 0 0 0 .nil) := by
  unfold rep; simp

/-- The list of ends grows. -/
theorem endsV (p : Nat → Bool) (k : Nat) : (endsL p (k + 1)).map vI = (endsL p k).map vI ++ if p k = true then [V.int .i64 (k : Int)] else [] := by
  simp only [endsL, List.map_append]
  congr 1
  split <;> rfl

theorem c_specEndsAt {F : Nat → Prop} {H : AH} {v : V} {x : List Nd} {t : List UInt8} {pl : Int} (hx : IsNodes F H v x) : CallsA prog spec_EndsAt [.agg [v], .str t, .int .i64 pl] H fun r H' => IsInts (fun y => H.length ≤ y) H' r (endsOf x t pl) ∧ Ext0 H H' := by
  have hx0 := hx
  obtain ⟨xb, xi, xc, rfl, -⟩ := hx
  refine spec_EndsAt_in fun D hD => ?_
  rw [spec_EndsAt_eq hD]
  have l1 : (H ++ [Blk.cells [V.sl xb xi x.length xc] false]).length = H.length + 1 := by simp
  rw [l1]
  generalize hG : H ++ [Blk.cells [V.sl xb xi x.length xc] false] ++ [Blk.cells [] false] = G
  have hEG : Ext0 H G := by rw [← hG]; exact (Ext.app _ _ _).trans (Ext.app _ _ _)
  have gX : G[H.length]? = some (.cells [V.sl xb xi x.length xc] false) := by rw [← hG, List.getElem?_append_left (by simp)]; exact get_new _ _
  have gO : G[H.length + 1]? = some (.cells [] false) := by rw [← hG, ← l1]; exact get_new _ _
  have no : ∀ (G : AH), Ext0 H G → ¬ (RxOk x ∧ t.length ≤ 300 ∧ 0 ≤ pl ∧ pl ≤ t.length) → IsInts (fun y => H.length ≤ y) G (.sl (H.length + 1) 0 0 (.ex 0)) (endsOf x t pl) ∧ Ext0 H G := fun G hE h => ⟨by rw [endsOf_no h]; exact IsRow.nil, hE⟩
  have J2 : ∀ (b : Bool) (G1 : AH), Ext0 G G1 → (b = true → ¬ (RxOk x ∧ t.length ≤ 300 ∧ 0 ≤ pl ∧ pl ≤ t.length)) → (b = false → RxOk x ∧ t.length ≤ 300 ∧ 0 ≤ pl ∧ pl ≤ t.length) → J_spec_EndsAt_2 D (fun r H' => IsInts (fun y => H.length ≤ y) H' r (endsOf x t pl) ∧ Ext0 H H') [(26, .bool b), (2, .int .i64 pl), (3, .ptr H.length 0), (1, .str t), (7, .sl (H.length + 1) 0 0 (.ex 0))] G1 := by
    intro b G1 hE1 b1 b2
    rw [J_spec_EndsAt_2_eq hD]
    refine spl (fun h => no G1 (hEG.trans hE1) (b1 h)) (fun h => ?_)
    obtain ⟨ok, t300, p0, p1⟩ := b2 h
    have hpos := ok.pos
    have hmost := ok.most
    have hbig : x.length * (t.length + 1) ≤ 300 * 301 := Nat.mul_le_mul hmost (by omega)
    rw [J_spec_EndsAt_1_eq hD]
    have g1X := hE1.get gX id
    have c1X := cell_of (i := 0) g1X rfl
    refine ldSl c1X (ldSl c1X ?_)
    have e : IntKind.i64.wrap ((x.length : Int) * IntKind.i64.wrap ((t.length : Int) + 1)) = ((x.length * (t.length + 1) : Nat) : Int) := by
      rw [inc (by omega), ← Int.natCast_mul, w64 (by omega) (by omega)]
    have lg : ∀ B : Blk, (G1 ++ [B]).length = G1.length + 1 := fun B => by simp
    rw [e, tn, rep_nils, lg]
    refine ⟨⟨by omega, by omega, by omega, by omega⟩, ?_⟩
    generalize hK : G1 ++ [Blk.cells (List.replicate (x.length * (t.length + 1)) (V.sl 0 0 0 .nil)) false] ++ [Blk.cells [V.sl xb xi x.length xc, .str t, .sl G1.length 0 (x.length * (t.length + 1)) (.ex (x.length * (t.length + 1)))] false] = K
    have hEK : Ext0 G1 K := by rw [← hK]; exact (Ext.app _ _ _).trans (Ext.app _ _ _)
    have kg : K[G1.length]? = some (.cells (List.replicate (x.length * (t.length + 1)) (V.sl 0 0 0 .nil)) false) := by rw [← hK, List.getElem?_append_left (by simp)]; exact get_new _ _
    have km : K[G1.length + 1]? = some (.cells [V.sl xb xi x.length xc, .str t, .sl G1.length 0 (x.length * (t.length + 1)) (.ex (x.length * (t.length + 1)))] false) := by rw [← hK, ← lg]; exact get_new _ _
    have hEH1 := hEG.trans hE1
    have hN1 : IsNodes (fun y => y < G1.length) G1 (.sl xb xi x.length xc) x := (nodes_lt (hx0.keep0 hEH1)).lift fun y hy => hy.2
    have hM : Memo (fun y => y < G1.length) (fun _ => False) (G1.length + 1) G1.length (.sl xb xi x.length xc) x t K := ⟨km, hN1.keep0 hEK, _, kg, by simp, fun k w hw => .inl ⟨0, 0, .nil, by
      have := List.mem_of_getElem? hw
      exact (List.mem_replicate.1 this).2⟩⟩
    have epl : pl = ((pl.toNat : Nat) : Int) := by omega
    have el : IntKind.i64.wrap ((x.length : Int) - 1) = ((x.length - 1 : Nat) : Int) := by rw [w64 (by omega) (by omega)]; omega
    refine ldSl (hEK.cell c1X id) ?_
    rw [el]
    have hcall := all_ends ok.node hmost t300 (fun y (hy : y < G1.length) => hy) (by omega) (x.length - 1) (by omega) (fun _ => False) K pl.toNat (fun _ h => h.elim) hM (by omega)
    rw [← epl] at hcall
    refine hcall.use ?_
    rintro r L ⟨hr, hEL, -⟩
    obtain ⟨rb', ri, rc, rfl, -, -, hcell⟩ := bRow_cell hr
    refine asSlI ?_
    have hEHL : Ext0 H L := (hEH1.trans hEK).new (hEL.mono fun y _ hy => .inr (by have := hEH1.1; omega))
    have lGG : H.length + 1 < G1.length := get_lt (hE1.get gO id)
    have lO : Own H.length 1 L (H.length + 1) 0 (.ex 0) ([] : List V) := ⟨⟨rfl, by omega⟩, .inr ⟨by omega, hEL.get (hEK.get (hE1.get gO id) id) (by omega), .inl rfl⟩⟩
    generalize hpd : dB (En x t (x.length - 1) pl.toNat) = p at hcell
    have hrb : ∀ j, j < t.length + 1 → L.cell rb' (ri + j * 1) = some (.bool (p j)) := hcell
    -- the row of ends is not the list that grows
    have hrne : rb' ≠ H.length + 1 := by
      intro hh
      have := hrb 0 (by omega)
      rw [hh] at this
      obtain ⟨vs, ro, q1, q2⟩ := cell_some this
      have q3 := hEL.get (hEK.get (hE1.get gO id) id) (show ¬ (H.length + 1 = G1.length) by omega)
      rw [q3] at q1
      cases q1
      simp at q2
    refine loopUp (σ := Nat × Nat × Cap) (t.length + 1) (fun k s => [(7, .sl s.1 0 s.2.1 s.2.2), (10, .int .i64 k), (9, .sl rb' ri (t.length + 1) rc)]) (fun k s H' => Ext0 H H' ∧ Own H.length 1 H' s.1 s.2.1 s.2.2 ((endsL p k).map vI) ∧ s.1 ≠ rb' ∧ ∀ j, j < t.length + 1 → H'.cell rb' (ri + j * 1) = some (.bool (p j))) (H.length + 1, 0, .ex 0) rfl
      ⟨hEHL, lO, fun h => hrne h.symm, hrb⟩ ?_
    rintro k ⟨ob, on, oc⟩ L1 hk ⟨hE2, hO, hne, hr2⟩
    simp only at hO hne ⊢
    have hlen : on = (endsL p k).length := by have := hO.len; simp at this; omega
    have hle := endsL_len p k
    rw [L_spec_EndsAt_4_eq hD]
    refine splD (fun h => ?_) (fun h => ?_)
    · have hkl : k < t.length + 1 := by omega
      rw [J_spec_EndsAt_5_eq hD, tn]
      refine ⟨⟨by omega, by omega⟩, ldBool (hr2 k hkl) (spl (fun hp => cellsNew rfl ?_) (fun hp => ?_))⟩
      · have hO2 : Own H.length 1 (L1 ++ [Blk.cells [V.int .i64 (k : Int)] false]) ob on oc ((endsL p k).map vI) := hO.keep (Ext.app (fun _ => False) _ _) (fun _ => id)
        have hrl := cell_lt (hr2 0 (by omega))
        refine hO2.push (m := 1) rfl (by omega) (by omega) (by omega) (by omega) (by have := hE2.1; simp; omega) fun H' hO' hl he => ?_
        have lg2 : (L1 ++ [Blk.cells [V.int .i64 (k : Int)] false]).length = L1.length + 1 := by simp
        rw [lg2] at hO' hl ⊢
        rw [J_spec_EndsAt_6_eq hD, inc (by omega)]
        refine nxt (_, _, _) hkl rfl ⟨(hE2.trans (Ext.app _ _ _)).new (he.mono fun y _ hy => .inr hy.1), ?_, by simp; omega, fun j hj => he.cell ((Ext.app (fun _ => False) L1 _).cell (hr2 j hj) id) (fun h => hne h.2.1.symm)⟩
        rw [endsV, if_pos hp]
        exact hO'
      · rw [J_spec_EndsAt_6_eq hD, inc (by omega)]
        refine nxt (ob, on, oc) hkl rfl ⟨hE2, ?_, hne, hr2⟩
        rw [endsV, if_neg (by rw [hp]; simp), List.append_nil]
        exact hO
    · rw [J_spec_EndsAt_3_eq hD]
      rw [show k = t.length + 1 by omega] at hO
      refine ⟨?_, hE2⟩
      rw [endsOf_yes ok t300 p0 p1, hpd]
      exact hO.row1
  refine ldSl (cell_of (i := 0) gX rfl) ((c_specRxOk (hx0.keep0 hEG)).use ?_)
  rintro _ G1 ⟨⟨u, rfl, hu⟩, hE1⟩
  refine asBoolI (splNot (fun h => J2 true _ hE1 (fun _ hh => by have := hu.2 hh.1; rw [h] at this; cases this) (fun h => by cases h)) (fun h => splD (fun h2 => J2 true _ hE1 (fun _ hh => by have := hh.2.1; omega) (fun h => by cases h)) (fun h2 => (c_l1In _ _ _ _).use ?_)))
  rintro _ G1 ⟨rfl, rfl⟩
  refine asBoolI (J2 _ G1 hE1 (fun h3 hh => by simp at h3; omega) (fun h3 => ?_))
  simp at h3
  exact ⟨hu.1 h, by omega, h3.1, h3.2⟩

end Go.Proofs.YtpjkammmoaeheaaDoor.Aw

/- Contracts: sets of places, on the program's side. -/
set_option linter.unusedSimpArgs false
set_option linter.unusedVariables false
set_option maxRecDepth 10000
namespace Go.Proofs.YtpjkammmoaeheaaDoor.Aw
open Go Go.RowKit

theorem c_isEmpty {F : Nat → Prop} {H : AH} {va : V} {n : Nat} {p : Nat → Bool} (ha : IsBools F H va (bl n p)) : CallsA prog impl_places_isEmpty [va] H fun r H' => H' = H ∧ ∃ z, r = .bool z ∧ (z = true ↔ ∀ b, b < n → p b = false) := by
  obtain ⟨ab, ai, ac, rfl, hn, -, ha⟩ := bRow_cell ha
  refine impl_places_isEmpty_in fun D hD => ?_
  rw [impl_places_isEmpty_eq hD]
  refine loopUp (σ := Unit) n (fun k _ => [(6, .int .i64 n), (5, .sl ab ai n ac), (7, .int .i64 k)]) (fun k _ H' => H' = H ∧ ∀ b, b < k → p b = false) () rfl ⟨rfl, fun b hb => by omega⟩ ?_
  rintro k - H1 hk ⟨rfl, hp⟩
  rw [L_impl_places_isEmpty_2_eq hD]
  refine splD (fun h => ?_) (fun h => ?_)
  · rw [J_impl_places_isEmpty_3_eq hD, tn]
    refine ⟨⟨by omega, by omega⟩, ldBool (ha k (by omega)) (spl (fun hp => ⟨rfl, false, rfl, ?_⟩) (fun hpk => ?_))⟩
    · exact ⟨fun h => (by simp at h), fun h => by have := h k (by omega); rw [hp] at this; simp at this⟩
    · rw [J_impl_places_isEmpty_4_eq hD, inc (by omega)]
      exact nxt () (by omega) rfl ⟨rfl, fun b hb => if hbk : b = k then by rw [hbk]; exact hpk else hp b (by omega)⟩
  · rw [J_impl_places_isEmpty_1_eq hD]
    exact ⟨rfl, true, rfl, ⟨fun _ b hb => hp b (by omega), fun _ => rfl⟩⟩

theorem c_with {F : Nat → Prop} {H : AH} {va vb : V} {n : Nat} {p q : Nat → Bool} (ha : IsBools F H va (bl n p)) (hb : IsBools F H vb (bl n q)) : CallsA prog impl_places_with [va, vb] H fun r H' => IsBools (fun y => H.length ≤ y) H' r (bl n fun k => p k || q k) ∧ Ext0 H H' := by
  obtain ⟨ab, ai, ac, rfl, hn, -, ha⟩ := bRow_cell ha
  obtain ⟨bb, bi, bc, rfl, -, -, hb⟩ := bRow_cell hb
  refine impl_places_with_in fun D hD => ?_
  rw [impl_places_with_eq hD, tn, rep_bools]
  refine ⟨⟨by omega, by omega, by omega, by omega⟩, ?_⟩
  refine loopUp (σ := Unit) n (fun k _ => [(12, .int .i64 k), (11, .int .i64 n), (5, .sl H.length 0 n (.ex n)), (0, .sl ab ai n ac), (1, .sl bb bi n bc)]) (fun k _ H' => Ext0 H H' ∧ H'[H.length]? = some (.cells (bV n fun j => decide (j < k) && (p j || q j)) false)) () rfl
    ⟨Ext.app _ _ _, by rw [get_new, bV_congr]; intro j hj; simp⟩ ?_
  rintro k - H1 hk ⟨hE, hB⟩
  rw [L_impl_places_with_2_eq hD]
  refine splD (fun h => ?_) (fun h => ?_)
  · have hkn : k < n := by omega
    rw [J_impl_places_with_3_eq hD, tn]
    have st : ∀ z : Bool, z = (p k || q k) → stK H1 H.length (0 + k * 1) [V.bool z] fun H2 => J_impl_places_with_4 D (fun r H' => IsBools (fun y => H.length ≤ y) H' r (bl n fun k => p k || q k) ∧ Ext0 H H') (Nxt (σ := Unit) n (fun k _ => [(12, .int .i64 k), (11, .int .i64 n), (5, .sl H.length 0 n (.ex n)), (0, .sl ab ai n ac), (1, .sl bb bi n bc)]) (fun k _ H' => Ext0 H H' ∧ H'[H.length]? = some (.cells (bV n fun j => decide (j < k) && (p j || q j)) false)) k) [(12, .int .i64 k), (11, .int .i64 n), (5, .sl H.length 0 n (.ex n)), (0, .sl ab ai n ac), (1, .sl bb bi n bc)] H2 := by
      intro z hz
      refine bst (fun j => decide (j < k + 1) && (p j || q j)) hB (by omega) (fun j hj => ?_) ?_
      · by_cases hjk : j = 0 + k * 1
        · rw [if_pos hjk, decide_eq_true (by omega), Bool.true_and, hz, show j = k by omega]
        · rw [if_neg hjk]; congr 1; exact decide_eq_decide.2 (by omega)
      · rw [J_impl_places_with_4_eq hD, inc (by omega)]
        exact nxt () hkn rfl ⟨hE.new (Ext.set _ _ _ (.inr (Nat.le_refl _))), get_set _ (get_lt hB)⟩
    refine ⟨⟨by omega, by omega⟩, ldBool (hE.cell (ha k hkn) id) (spl (fun hp => ⟨⟨by omega, by omega⟩, st true (by rw [hp]; rfl)⟩) (fun hp => ⟨⟨by omega, by omega⟩, ldBool (hE.cell (hb k hkn) id) ⟨⟨by omega, by omega⟩, st _ (by rw [hp, Bool.false_or])⟩⟩))⟩
  · rw [J_impl_places_with_1_eq hD]
    refine ⟨bRow (ro := false) ?_ (Nat.le_refl _) hn, hE⟩
    rw [hB, bV_congr]; intro j hj; rw [decide_eq_true (by omega), Bool.true_and]

theorem c_without {F : Nat → Prop} {H : AH} {va vb : V} {n : Nat} {p q : Nat → Bool} (ha : IsBools F H va (bl n p)) (hb : IsBools F H vb (bl n q)) : CallsA prog impl_places_without [va, vb] H fun r H' => IsBools (fun y => H.length ≤ y) H' r (bl n fun k => p k && !q k) ∧ Ext0 H H' := by
  obtain ⟨ab, ai, ac, rfl, hn, -, ha⟩ := bRow_cell ha
  obtain ⟨bb, bi, bc, rfl, -, -, hb⟩ := bRow_cell hb
  refine impl_places_without_in fun D hD => ?_
  rw [impl_places_without_eq hD, tn, rep_bools]
  refine ⟨⟨by omega, by omega, by omega, by omega⟩, ?_⟩
  refine loopUp (σ := Unit) n (fun k _ => [(12, .int .i64 k), (11, .int .i64 n), (5, .sl H.length 0 n (.ex n)), (0, .sl ab ai n ac), (1, .sl bb bi n bc)]) (fun k _ H' => Ext0 H H' ∧ H'[H.length]? = some (.cells (bV n fun j => decide (j < k) && (p j && !q j)) false)) () rfl
    ⟨Ext.app _ _ _, by rw [get_new, bV_congr]; intro j hj; simp⟩ ?_
  rintro k - H1 hk ⟨hE, hB⟩
  rw [L_impl_places_without_2_eq hD]
  refine splD (fun h => ?_) (fun h => ?_)
  · have hkn : k < n := by omega
    rw [J_impl_places_without_3_eq hD, tn]
    have st : ∀ z : Bool, z = (p k && !q k) → stK H1 H.length (0 + k * 1) [V.bool z] fun H2 => J_impl_places_without_4 D (fun r H' => IsBools (fun y => H.length ≤ y) H' r (bl n fun k => p k && !q k) ∧ Ext0 H H') (Nxt (σ := Unit) n (fun k _ => [(12, .int .i64 k), (11, .int .i64 n), (5, .sl H.length 0 n (.ex n)), (0, .sl ab ai n ac), (1, .sl bb bi n bc)]) (fun k _ H' => Ext0 H H' ∧ H'[H.length]? = some (.cells (bV n fun j => decide (j < k) && (p j && !q j)) false)) k) [(12, .int .i64 k), (11, .int .i64 n), (5, .sl H.length 0 n (.ex n)), (0, .sl ab ai n ac), (1, .sl bb bi n bc)] H2 := by
      intro z hz
      refine bst (fun j => decide (j < k + 1) && (p j && !q j)) hB (by omega) (fun j hj => ?_) ?_
      · by_cases hjk : j = 0 + k * 1
        · rw [if_pos hjk, decide_eq_true (by omega), Bool.true_and, hz, show j = k by omega]
        · rw [if_neg hjk]; congr 1; exact decide_eq_decide.2 (by omega)
      · rw [J_impl_places_without_4_eq hD, inc (by omega)]
        exact nxt () hkn rfl ⟨hE.new (Ext.set _ _ _ (.inr (Nat.le_refl _))), get_set _ (get_lt hB)⟩
    refine ⟨⟨by omega, by omega⟩, ldBool (hE.cell (ha k hkn) id) (spl (fun hp => ⟨⟨by omega, by omega⟩, ldBool (hE.cell (hb k hkn) id) ⟨⟨by omega, by omega⟩, st _ (by rw [hp, Bool.true_and])⟩⟩) (fun hp => ⟨⟨by omega, by omega⟩, st false (by rw [hp]; rfl)⟩))⟩
  · rw [J_impl_places_without_1_eq hD]
    refine ⟨bRow (ro := false) ?_ (Nat.le_refl _) hn, hE⟩
    rw [hB, bV_congr]; intro j hj; rw [decide_eq_true (by omega), Bool.true_and]

theorem c_same {F : Nat → Prop} {H : AH} {va vb : V} {n : Nat} {p q : Nat → Bool} (ha : IsBools F H va (bl n p)) (hb : IsBools F H vb (bl n q)) : CallsA prog impl_places_same [va, vb] H fun r H' => Ext0 H H' ∧ ∃ z, r = .bool z ∧ (z = true ↔ ∀ b, b < n → p b = q b) := by
  have ha0 := ha
  have hb0 := hb
  obtain ⟨ab, ai, ac, rfl, -⟩ := bRow_cell ha
  obtain ⟨bb, bi, bc, rfl, -⟩ := bRow_cell hb
  refine impl_places_same_in fun D hD => ?_
  rw [impl_places_same_eq hD]
  refine (c_without ha0 hb0).use ?_
  rintro r1 H1 ⟨h1, hE1⟩
  have h1' := h1
  obtain ⟨rb, ri, rc, rfl, -⟩ := bRow_cell h1
  refine asSlI ((c_isEmpty h1').use ?_)
  rintro _ H2 ⟨e2, z, rfl, hz⟩
  subst e2
  refine asBoolI (spl (fun hzt => ?_) (fun hzf => ?_))
  · refine (c_without (hb0.keep (loc_e1 _ _) (hE1.agree fun _ _ => id)) (ha0.keep (loc_e1 _ _) (hE1.agree fun _ _ => id))).use ?_
    rintro r3 H3 ⟨h3, hE3⟩
    have h3' := h3
    obtain ⟨sb, si, sc, rfl, -⟩ := bRow_cell h3
    refine asSlI ((c_isEmpty h3').use ?_)
    rintro _ H4 ⟨e4, z', rfl, hz'⟩
    subst e4
    refine asBoolI ?_
    rw [J_impl_places_same_1_eq hD]
    refine ⟨hE1.trans hE3, z', rfl, hz'.trans ?_⟩
    have h5 := hz.1 hzt
    refine forall_congr' fun b => forall_congr' fun hb => ?_
    have := h5 b hb
    revert this
    cases p b <;> cases q b <;> simp
  · rw [J_impl_places_same_1_eq hD]
    refine ⟨hE1, false, rfl, ⟨fun h => (by simp at h), fun h => ?_⟩⟩
    have : z = true := hz.2 fun b hb => by rw [h b hb]; cases q b <;> rfl
    rw [hzf] at this; simp at this

end Go.Proofs.YtpjkammmoaeheaaDoor.Aw

/- The kit's contract of numDigits, laid at this program. -/
set_option linter.unusedVariables false
namespace Go.Proofs
open Go.Shelf

def YtpjkammmoaeheaaDoor.lays284_ren : Go.Shelf.Ren := ⟨fun | 284 => 74 | 129 => 82 | 317 => 81 | 318 => 83 | n => n, fun | 53 => 91 | 3 => 3 | 212 => 115 | 0 => 0 | 4 => 4 | 46 => 93 | 5 => 5 | 9 => 9 | n => n, fun | 17 => 0 | n => n⟩
theorem YtpjkammmoaeheaaDoor.lays284 : LaysM.n284 Tryd.prog YtpjkammmoaeheaaDoor.lays284_ren := {
  mixed := by kernel_rfl
  f129 := Tryd.func82.trans (congrArg some (by kernel_rfl))
  f284 := Tryd.func74.trans (congrArg some (by kernel_rfl))
  f317 := Tryd.func81.trans (congrArg some (by kernel_rfl))
  f318 := Tryd.func83.trans (congrArg some (by kernel_rfl))
  t0 := Tryd.underlying0
  a0 := Tryd.isAgg0
  z0 := Tryd.sizeOf0
  v0 := Tryd.zeroValue0
  t3 := Tryd.underlying3
  a3 := Tryd.isAgg3
  z3 := Tryd.sizeOf3
  v3 := Tryd.zeroValue3
  t4 := Tryd.underlying4
  a4 := Tryd.isAgg4
  z4 := Tryd.sizeOf4
  v4 := Tryd.zeroValue4
  t5 := Tryd.underlying5
  a5 := Tryd.isAgg5
  z5 := Tryd.sizeOf5
  v5 := Tryd.zeroValue5
  t9 := Tryd.underlying9
  a9 := Tryd.isAgg9
  z9 := Tryd.sizeOf9
  v9 := Tryd.zeroValue9
  t46 := Tryd.underlying93
  a46 := Tryd.isAgg93
  z46 := Tryd.sizeOf93
  v46 := Tryd.zeroValue93
  t53 := Tryd.underlying91
  a53 := Tryd.isAgg91
  z53 := Tryd.sizeOf91
  v53 := Tryd.zeroValue91
  t212 := Tryd.underlying115
  a212 := Tryd.isAgg115
  z212 := Tryd.sizeOf115
  v212 := Tryd.zeroValue115
  g17 := by kernel_rfl
  i0 := by kernel_rfl
  i3 := by kernel_rfl
  i4 := by kernel_rfl
  i5 := by kernel_rfl
  i9 := by kernel_rfl
  i46 := by kernel_rfl
  i53 := by kernel_rfl
  i212 := by kernel_rfl
  m17 := by kernel_rfl }

theorem YtpjkammmoaeheaaDoor.numDigits_laid (u : Nat) (h1 : 1 ≤ u) (h2 : u < 18446744073709551616) (w : World)
    (htab : Lib.TabIs Tryd.prog w "internal/strconv.uint64pow10" .u64 Lib.pow10Tab) :
    Calls Tryd.prog 74 #[.int .u64 u] w fun e w' => e = .returned (.int .i64 (Lib.nDigits u)) ∧ w' = w := Any.internal_strconv_numDigits YtpjkammmoaeheaaDoor.lays284 u h1 h2 w htab

end Go.Proofs

/- Contracts: numbers as texts (0 .. 999). -/
set_option linter.unusedSimpArgs false
set_option linter.unusedVariables false
set_option maxRecDepth 10000
namespace Go.Proofs.YtpjkammmoaeheaaDoor.Aw
open Go Go.RowKit

/-- A number's digits. -/
def dec (n : Nat) : List UInt8 :=
  if n < 10 then [UInt8.ofNat (48 + n)] else if n < 100 then [UInt8.ofNat (48 + n / 10), UInt8.ofNat (48 + n % 10)] else [UInt8.ofNat (48 + n / 100), UInt8.ofNat (48 + n / 10 % 10), UInt8.ofNat (48 + n % 10)]
def undec (l : List UInt8) : Nat := l.foldl (fun a c => 10 * a + (c.toNat - 48)) 0
theorem undec_dec : ∀ n, n < 1000 → undec (dec n) = n := by decide +kernel
theorem dec_digit : ∀ n, n < 1000 → (dec n).all (fun c => decide (48 ≤ c.toNat)) = true := by decide +kernel
theorem dec_len (n : Nat) : 1 ≤ (dec n).length ∧ (dec n).length ≤ 3 := by
  unfold dec
  split
  · simp
  · split <;> simp

theorem c_numDigits {H : AH} {u : Nat} (h1 : 1 ≤ u) (h2 : u < 18446744073709551616) : CallsA prog internal_strconv_numDigits [.int .u64 u] H fun r H' => H' = H ∧ r = .int .i64 (Lib.nDigits u) := by
  intro w0 p w rs hI ha
  simp only [RnL, Rn] at ha
  obtain ⟨_, _, rfl, rfl, rfl⟩ := ha
  have ht := Lib.tabBelow_of_tabIs hI.glob w hI.below
  refine .inl ⟨enters_of Go.Proofs.Tryd.func74 (by kernel_rfl) rfl _ _, (YtpjkammmoaeheaaDoor.numDigits_laid u h1 h2 w ht).mono ?_⟩
  rintro e w' ⟨rfl, rfl⟩
  exact ⟨p, H, _, _, PMap.le_refl p, ⟨fun b _ h => h, Nat.le_refl _⟩, hI, ⟨rfl, rfl⟩, by simp only [Rn], rfl⟩

theorem c_small {H : AH} {n : Nat} (h : n < 100) : CallsA prog internal_strconv_small [.int .i64 n] H fun r H' => H' = H ∧ r = .str (dec n) := by
  refine internal_strconv_small_in fun D hD => ?_
  rw [internal_strconv_small_eq hD]
  refine splD (fun h10 => ?_) (fun h10 => ?_)
  · rw [inc (by omega)]
    refine ⟨⟨by omega, by omega, by omega⟩, rfl, ?_⟩
    have h' : n < 10 := by omega
    congr 1
    rw [tn, tn]
    clear h10 h
    revert n
    decide +kernel
  · rw [J_internal_strconv_small_1_eq hD]
    rw [w64 (x := (n : Int) * 2) (by omega) (by omega), w64 (by omega) (by omega)]
    refine ⟨⟨by omega, by omega, by omega⟩, rfl, ?_⟩
    have h' : ¬ n < 10 := by omega
    congr 1
    rw [show ((n : Int) * 2).toNat = n * 2 by omega, show ((n : Int) * 2 + 2).toNat = n * 2 + 2 by omega]
    clear h10
    revert n
    decide +kernel

def smL : List UInt8 := [48, 48, 48, 49, 48, 50, 48, 51, 48, 52, 48, 53, 48, 54, 48, 55, 48, 56, 48, 57, 49, 48, 49, 49, 49, 50, 49, 51, 49, 52, 49, 53, 49, 54, 49, 55, 49, 56, 49, 57, 50, 48, 50, 49, 50, 50, 50, 51, 50, 52, 50, 53, 50, 54, 50, 55, 50, 56, 50, 57, 51, 48, 51, 49, 51, 50, 51, 51, 51, 52, 51, 53, 51, 54, 51, 55, 51, 56, 51, 57, 52, 48, 52, 49, 52, 50, 52, 51, 52, 52, 52, 53, 52, 54, 52, 55, 52, 56, 52, 57, 53, 48, 53, 49, 53, 50, 53, 51, 53, 52, 53, 53, 53, 54, 53, 55, 53, 56, 53, 57, 54, 48, 54, 49, 54, 50, 54, 51, 54, 52, 54, 53, 54, 54, 54, 55, 54, 56, 54, 57, 55, 48, 55, 49, 55, 50, 55, 51, 55, 52, 55, 53, 55, 54, 55, 55, 55, 56, 55, 57, 56, 48, 56, 49, 56, 50, 56, 51, 56, 52, 56, 53, 56, 54, 56, 55, 56, 56, 56, 57, 57, 48, 57, 49, 57, 50, 57, 51, 57, 52, 57, 53, 57, 54, 57, 55, 57, 56, 57, 57]
theorem smL0 : ∀ k, k < 100 → byteAt smL ((k * 2 : Nat) : Int) = UInt8.ofNat (48 + k / 10) := by decide +kernel
theorem smL1 : ∀ k, k < 100 → byteAt smL ((k * 2 + 1 : Nat) : Int) = UInt8.ofNat (48 + k % 10) := by decide +kernel
theorem smD0 : ∀ k, k < 10 → (IntKind.u8.wrap (IntKind.u32.wrap (48 + ((k : Nat) : Int)))) = ((UInt8.ofNat (48 + k)).toNat : Int) := by decide +kernel
theorem smD (k : Nat) (h : k < 10) : V.int .u8 (IntKind.u8.wrap (IntKind.u32.wrap (48 + ((k : Nat) : Int)))) = byteV (UInt8.ofNat (48 + k)) := congrArg (V.int .u8) (smD0 k h)
theorem set3 {α : Type} {vs : List α} {i : Nat} {x y z : α} (h : i + 3 ≤ vs.length) : (((vs.set (i + 2) x).set (i + 1) y).set i z)[i + 0]? = some z ∧ (((vs.set (i + 2) x).set (i + 1) y).set i z)[i + 1]? = some y ∧ (((vs.set (i + 2) x).set (i + 1) y).set i z)[i + 2]? = some x := by
  refine ⟨?_, ?_, ?_⟩
  · show _[i]? = _
    rw [List.getElem?_set_self (by simp only [List.length_set]; omega)]
  · rw [List.getElem?_set_ne (by omega), List.getElem?_set_self (by simp only [List.length_set]; omega)]
  · rw [List.getElem?_set_ne (by omega), List.getElem?_set_ne (by omega), List.getElem?_set_self (by omega)]

theorem decBytes : ∀ u, u < 1000 → 100 ≤ u → dec u = [UInt8.ofNat (48 + u / 100), UInt8.ofNat (48 + u / 10 % 10), UInt8.ofNat (48 + u % 10)] := by
  intro u h1 h2
  unfold dec
  rw [if_neg (by omega), if_neg (by omega)]

theorem c_formatBase10 {H : AH} {b i u : Nat} {c : Cap} {vs : List V} (hb : H[b]? = some (.cells vs false)) (hi : i + 3 ≤ vs.length) (h1 : 100 ≤ u) (h2 : u < 1000) :
    CallsA prog internal_strconv_formatBase10 [.sl b i 3 c, .int .u64 u] H fun r H' => r = .tup [] ∧ Ext (fun y => y = b) H H' ∧ ∃ vs', H'[b]? = some (.cells vs' false) ∧ vs'.length = vs.length ∧ ∀ t z, (dec u)[t]? = some z → vs'[i + t]? = some (byteV z) := by
  refine internal_strconv_formatBase10_in fun D hD => ?_
  rw [internal_strconv_formatBase10_eq hD]
  refine loopI (fun n env H' => env = [(1, .int .u64 u), (4, .int .i64 3), (0, .sl b i 3 c)] ∧ H' = H) 0 ⟨rfl, rfl⟩ ?_
  rintro n _ _ ⟨rfl, rfl⟩
  rw [L_internal_strconv_formatBase10_2_eq hD]
  refine splD (fun h => by omega) (fun _ => ?_)
  rw [J_internal_strconv_formatBase10_1_eq hD]
  refine splD (fun h => by omega) (fun _ => ?_)
  rw [J_internal_strconv_formatBase10_4_eq hD]
  refine splD (fun _ => ?_) (fun h => by omega)
  have eu : IntKind.u32.wrap (u : Int) = (u : Int) := by rw [IntKind.wrap_u32]; omega
  rw [eu]
  have et : ((u : Int)).tmod 100 = ((u % 100 : Nat) : Int) := rfl
  have ed : ((u : Int)).tdiv 100 = ((u / 100 : Nat) : Int) := rfl
  rw [et, ed]
  have e2 : IntKind.u32.wrap (((u % 100 : Nat) : Int) * 2) = ((u % 100 * 2 : Nat) : Int) := by rw [IntKind.wrap_u32]; omega
  have e3 : IntKind.u32.wrap (((u % 100 * 2 : Nat) : Int) + 1) = ((u % 100 * 2 + 1 : Nat) : Int) := by rw [IntKind.wrap_u32]; omega
  have e4 : IntKind.u32.wrap ((u / 100 : Nat) : Int) = ((u / 100 : Nat) : Int) := by rw [IntKind.wrap_u32]; omega
  rw [e2, e3, e4]
  refine ⟨by simp [nz], by simp [nz], ⟨by omega, by omega⟩, ⟨by omega, by omega⟩, ⟨by decide, by decide⟩, ?_⟩
  rw [w64 (x := 3 - 1) (by omega) (by omega), w64 (x := 3 - 2) (by omega) (by omega)]
  refine stI hb (by omega) ⟨⟨by decide, by decide⟩, stI (get_set _ (get_lt hb)) (by rw [List.length_set]; omega) ?_⟩
  rw [J_internal_strconv_formatBase10_5_eq hD]
  refine splD (fun _ => ⟨⟨by decide, by decide⟩, stI (get_set _ (by rw [List.length_set]; exact get_lt hb)) (by rw [List.length_set, List.length_set]; omega) ⟨rfl, ?_, _, get_set _ (by rw [List.length_set, List.length_set]; exact get_lt hb), ?_, ?_⟩⟩) (fun h => by omega)
  · exact ((Ext.set (X := fun y => y = b) _ _ _ rfl).trans (Ext.set _ _ _ rfl)).trans (Ext.set _ _ _ rfl)
  · simp only [List.length_set]
  · intro t z ht
    rw [decBytes u h2 h1] at ht
    match t, ht with
    | 0, ht => cases ht; exact (set3 hi).1.trans (congrArg some (smD _ (by omega)))
    | 1, ht => cases ht; exact (set3 hi).2.1.trans (congrArg some (congrArg (fun c : UInt8 => V.int .u8 (c.toNat : Int)) ((smL0 (u % 100) (by omega)).trans (by rw [show u % 100 / 10 = u / 10 % 10 by omega]))))
    | 2, ht => cases ht; exact (set3 hi).2.2.trans (congrArg some (congrArg (fun c : UInt8 => V.int .u8 (c.toNat : Int)) ((smL1 (u % 100) (by omega)).trans (by rw [show u % 100 % 10 = u % 10 by omega]))))
    | t + 3, ht => simp at ht

theorem strI' {H : AH} {b i n : Nat} {s : List UInt8} {K : List UInt8 → Prop} (hn : n = s.length) (h : ∀ t z, s[t]? = some z → H.cell b (i + t) = some (byteV z)) (hk : K s) : strK H b i n K := by
  have hc : H.cellsN b i n = some (s.map byteV) := by
    subst hn
    have := Cells.cellsN (H := H) (b := b) (i := i) (vs := s.map byteV) fun t v hv => by
      rw [List.getElem?_map] at hv
      cases hs : s[t]? with
      | none => rw [hs] at hv; simp at hv
      | some z => rw [hs] at hv; cases hv; exact h t z hs
    rwa [List.length_map] at this
  unfold strK
  rw [hc]
  simp only [bytes_un]
  exact hk

theorem dec3 {n : Nat} (h1 : 100 ≤ n) (h2 : n < 1000) : (dec n).length = 3 := by rw [decBytes n h2 h1]; rfl
theorem nd3 {n : Nat} (h1 : 100 ≤ n) (h2 : n < 1000) : Lib.nDigits n = 3 := Lib.nDigits_unique 2 n (by omega) (by omega)

theorem c_FormatInt0 {H : AH} {n : Nat} (h : n < 1000) : CallsA prog internal_strconv_FormatInt [.int .i64 n, .int .i64 10] H fun r H' => Ext0 H H' ∧ r = .str (dec n) := by
  refine internal_strconv_FormatInt_in fun D hD => ?_
  rw [internal_strconv_FormatInt_eq hD]
  refine splT rfl (splD (fun _ => ?_) (fun h => by omega))
  rw [J_internal_strconv_FormatInt_3_eq hD]
  refine splD (fun h1 => ?_) (fun h1 => ?_)
  · refine (c_small (by omega)).use ?_
    rintro _ H1 ⟨rfl, rfl⟩
    exact asStrI ⟨Ext.refl _ _, rfl⟩
  · rw [J_internal_strconv_FormatInt_2_eq hD]
    refine splD (fun h => by omega) (fun _ => ?_)
    rw [J_internal_strconv_FormatInt_4_eq hD]
    have e : IntKind.u64.wrap (n : Int) = (n : Int) := by rw [IntKind.wrap_u64]; omega
    rw [e]
    have hE0 : Ext0 H (H ++ [Blk.cells (List.replicate 24 (V.int .u8 0)) false]) := Ext.app _ _ _
    refine (c_numDigits (by omega) (by omega)).use ?_
    rintro _ H1 ⟨e1, rfl⟩
    rw [nd3 (by omega) (by omega)]
    refine asIntI ?_
    rw [w64 (x := 1 + ((3 : Nat) : Int)) (by omega) (by omega)]
    have hg : H1[H.length]? = some (.cells (List.replicate 24 (V.int .u8 0)) false) := by rw [e1]; exact get_new _ _
    refine ⟨⟨by decide, by decide, by decide⟩, by decide, ?_⟩
    refine (c_formatBase10 hg (by rw [List.length_replicate]; omega) (by omega) h).use ?_
    rintro _ H2 ⟨-, hE2, vs', hg2, hl2, hz2⟩
    refine splD (fun h => by omega) (fun _ => ?_)
    rw [J_internal_strconv_FormatInt_5_eq hD, w64 (x := 1 + ((3 : Nat) : Int)) (by omega) (by omega)]
    refine ⟨⟨by decide, by decide, by decide⟩, by decide, strI' (s := dec n) ?_ (fun t z hz => cell_of hg2 (hz2 t z hz)) ⟨?_, rfl⟩⟩
    · rw [dec3 (by omega) h]; rfl
    · rw [e1] at hE2
      exact hE0.new (hE2.mono fun y _ hy => .inr (by omega))

theorem c_FormatInt {H : AH} {n : Nat} (h : n < 1000) : CallsA prog strconv_FormatInt [.int .i64 n, .int .i64 10] H fun r H' => Ext0 H H' ∧ r = .str (dec n) := by
  refine strconv_FormatInt_in fun D hD => ?_
  rw [strconv_FormatInt_eq hD]
  refine (c_FormatInt0 h).use ?_
  rintro _ H1 ⟨hE, rfl⟩
  exact asStrI ⟨hE, rfl⟩

abbrev KeyPost (n0 : Nat) (l : List UInt8) (H : AH) (r : V) (H' : AH) : Prop := ∃ b c, r = .sl b 0 l.length c ∧ Own n0 1 H' b l.length c (l.map byteV) ∧ Ext (fun x => n0 ≤ x) H H'

theorem pushB {n0 b : Nat} {H : AH} {c : Cap} {l s : List UInt8} (hl : l.length ≤ 100000) (hs : s.length ≤ 1000) (hs0 : s ≠ []) (hO : Own n0 1 H b l.length c (l.map byteV)) (hn : n0 ≤ H.length) {m : Nat} (hm : m = s.length) {news : List V} (hnews : news = s.map byteV) {K : Nat → Nat → Nat → Cap → AH → Prop} (hK : ∀ b1 c1 H', Own n0 1 H' b1 (l ++ s).length c1 ((l ++ s).map byteV) → Ext (fun x => n0 ≤ x) H H' → K b1 0 (l ++ s).length c1 H') : app H 1 1 b 0 l.length c m news K := by
  subst hm hnews
  have := List.length_pos_iff.2 hs0
  refine hO.push (by simp) (by omega) (by omega) (by omega) (by omega) hn fun H' hO' _ hE => ?_
  have := hK H.length (.toEnd 1) H' (by rw [List.length_append, List.map_append]; exact hO') (hE.mono fun y _ hy => hy.1)
  rwa [List.length_append] at this

theorem c_AppendUint {n0 b n : Nat} {H : AH} {c : Cap} {l : List UInt8} (h : n < 1000) (hl : l.length ≤ 100000) (hO : Own n0 1 H b l.length c (l.map byteV)) (hn : n0 ≤ H.length) : CallsA prog internal_strconv_AppendUint [.sl b 0 l.length c, .int .u64 n, .int .i64 10] H (KeyPost n0 (l ++ dec n) H) := by
  have hd := dec_len n
  have hd0 : dec n ≠ [] := by intro h0; rw [h0] at hd; simp at hd
  refine internal_strconv_AppendUint_in fun D hD => ?_
  rw [internal_strconv_AppendUint_eq hD]
  refine splT rfl (splD (fun h1 => ?_) (fun h1 => ?_))
  · rw [w64 (by omega) (by omega)]
    refine (c_small (by omega)).use ?_
    rintro _ H1 ⟨rfl, rfl⟩
    exact asStrI (pushB hl (by omega) hd0 hO hn rfl rfl fun b1 c1 H' h1 h2 => ⟨b1, c1, rfl, h1, h2⟩)
  · rw [J_internal_strconv_AppendUint_2_eq hD]
    have hE0 : Ext0 H (H ++ [Blk.cells (List.replicate 24 (V.int .u8 0)) false]) := Ext.app _ _ _
    refine (c_numDigits (by omega) (by omega)).use ?_
    rintro _ H1 ⟨e1, rfl⟩
    rw [nd3 (by omega) (by omega)]
    have hg : H1[H.length]? = some (.cells (List.replicate 24 (V.int .u8 0)) false) := by rw [e1]; exact get_new _ _
    refine asIntI ⟨⟨by decide, by decide, by decide⟩, by decide, ?_⟩
    refine (c_formatBase10 hg (by rw [List.length_replicate]; omega) (by omega) h).use ?_
    rintro _ H2 ⟨-, hE2, vs', hg2, hl2, hz2⟩
    rw [e1] at hE2
    have hE3 : Ext0 H H2 := hE0.new (hE2.mono fun y _ hy => .inr (by omega))
    have hc : H2.cellsN H.length 0 3 = some ((dec n).map byteV) := by
      have := Cells.cellsN (H := H2) (b := H.length) (i := 0) (vs := (dec n).map byteV) fun t v hv => by
        rw [List.getElem?_map] at hv
        cases hs : (dec n)[t]? with
        | none => rw [hs] at hv; simp at hv
        | some z => rw [hs] at hv; cases hv; exact cell_of hg2 (hz2 t z hs)
      rwa [List.length_map, dec3 (by omega) h] at this
    refine ⟨⟨by decide, by decide, by decide⟩, by decide, cellsI hc ?_⟩
    refine pushB hl (by omega) hd0 (hO.keep hE3 fun _ => id) (by have := hE3.1; omega) (by rw [dec3 (by omega) h]; rfl) rfl fun b1 c1 H' h1 h2 => ⟨b1, c1, rfl, h1, hE3.of0.trans h2⟩

theorem c_AppendInt {n0 b n : Nat} {H : AH} {c : Cap} {l : List UInt8} (h : n < 1000) (hl : l.length ≤ 100000) (hO : Own n0 1 H b l.length c (l.map byteV)) (hn : n0 ≤ H.length) : CallsA prog strconv_AppendInt [.sl b 0 l.length c, .int .i64 n, .int .i64 10] H (KeyPost n0 (l ++ dec n) H) := by
  refine strconv_AppendInt_in fun D hD => ?_
  rw [strconv_AppendInt_eq hD]
  have h0 : CallsA prog internal_strconv_AppendInt [.sl b 0 l.length c, .int .i64 n, .int .i64 10] H (KeyPost n0 (l ++ dec n) H) := by
    refine internal_strconv_AppendInt_in fun D hD => ?_
    rw [internal_strconv_AppendInt_eq hD]
    refine splD (fun h => by omega) (fun _ => ?_)
    rw [J_internal_strconv_AppendInt_1_eq hD, show IntKind.u64.wrap (n : Int) = (n : Int) by rw [IntKind.wrap_u64]; omega]
    refine (c_AppendUint h hl hO hn).use ?_
    rintro _ H1 ⟨b1, c1, rfl, hO1, hE1⟩
    exact asSlI ⟨b1, c1, rfl, hO1, hE1⟩
  refine h0.use ?_
  rintro _ H1 ⟨b1, c1, rfl, hO1, hE1⟩
  exact asSlI ⟨b1, c1, rfl, hO1, hE1⟩

end Go.Proofs.YtpjkammmoaeheaaDoor.Aw

/- Contracts: the program's memo: keys, the memo's state, 'ends' out of 'endsOf'. -/
set_option linter.unusedSimpArgs false
set_option linter.unusedVariables false
set_option linter.unusedSectionVars false
set_option maxRecDepth 10000
namespace Go.Proofs.YtpjkammmoaeheaaDoor.Aw
open Go Go.RowKit

/-! ### Keys -/
def keyR (l : List Nat) : List UInt8 := l.flatMap fun j => 44 :: dec j
def marks (p : Nat → Bool) (k : Nat) : List Nat := (List.range k).filter p
def keyOf (i : Nat) (p : Nat → Bool) (k : Nat) : List UInt8 := dec i ++ [32] ++ keyR (marks p k)
theorem marks_succ (p : Nat → Bool) (k : Nat) : marks p (k + 1) = marks p k ++ if p k = true then [k] else [] := by
  unfold marks
  rw [List.range_succ, List.filter_append]
  congr 1
  by_cases h : p k = true <;> simp [h]
theorem mem_marks {p : Nat → Bool} {k b : Nat} : b ∈ marks p k ↔ b < k ∧ p b = true := by simp [marks]
theorem keyOf_yes {i : Nat} {p : Nat → Bool} {k : Nat} (h : p k = true) : keyOf i p (k + 1) = keyOf i p k ++ [44] ++ dec k := by
  unfold keyOf
  rw [marks_succ, if_pos h, keyR, List.flatMap_append]
  simp [keyR]
theorem keyOf_no {i : Nat} {p : Nat → Bool} {k : Nat} (h : p k = false) : keyOf i p (k + 1) = keyOf i p k := by
  unfold keyOf
  rw [marks_succ, if_neg (by rw [h]; simp), List.append_nil]
theorem keyOf_len (i : Nat) (p : Nat → Bool) : ∀ k, (keyOf i p k).length ≤ 4 + 4 * k
  | 0 => by have := dec_len i; simp [keyOf, marks, keyR]; omega
  | k + 1 => by
    have h1 := keyOf_len i p k
    have h2 := dec_len k
    by_cases h : p k = true
    · rw [keyOf_yes h]; simp; omega
    · rw [keyOf_no (by simpa using h)]; omega

theorem cut : ∀ {l1 l2 r1 r2 : List UInt8}, (∀ c ∈ l1, 48 ≤ c.toNat) → (∀ c ∈ l2, 48 ≤ c.toNat) → (∀ c, r1.head? = some c → c.toNat < 48) → (∀ c, r2.head? = some c → c.toNat < 48) → l1 ++ r1 = l2 ++ r2 → l1 = l2 ∧ r1 = r2
  | [], [], _, _, _, _, _, _, h => ⟨rfl, h⟩
  | [], c :: l2, r1, r2, _, h2, h3, _, h => by
    have : r1.head? = some c := by simp at h; rw [h]; rfl
    have := h3 c this
    have := h2 c (by simp)
    omega
  | c :: l1, [], r1, r2, h1, _, _, h4, h => by
    have : r2.head? = some c := by simp at h; rw [← h]; rfl
    have := h4 c this
    have := h1 c (by simp)
    omega
  | c :: l1, d :: l2, r1, r2, h1, h2, h3, h4, h => by
    simp only [List.cons_append, List.cons.injEq] at h
    obtain ⟨rfl, h⟩ := h
    have := cut (fun x hx => h1 x (by simp [hx])) (fun x hx => h2 x (by simp [hx])) h3 h4 h
    exact ⟨by rw [this.1], this.2⟩
theorem dec_ge {n : Nat} (h : n < 1000) : ∀ c ∈ dec n, 48 ≤ c.toNat := fun c hc => of_decide_eq_true (List.all_eq_true.1 (dec_digit n h) c hc)
theorem dec_inj {a b : Nat} (ha : a < 1000) (hb : b < 1000) (h : dec a = dec b) : a = b := by rw [← undec_dec a ha, h, undec_dec b hb]
theorem keyR_head (l : List Nat) : ∀ c, (keyR l).head? = some c → c.toNat < 48 := by
  intro c h
  cases l with
  | nil => simp [keyR] at h
  | cons a l => simp [keyR] at h; subst h; decide
theorem keyR_inj : ∀ {l m : List Nat}, (∀ a ∈ l, a < 1000) → (∀ a ∈ m, a < 1000) → keyR l = keyR m → l = m
  | [], [], _, _, _ => rfl
  | [], b :: m, _, _, h => by simp [keyR] at h
  | a :: l, [], _, _, h => by simp [keyR] at h
  | a :: l, b :: m, h1, h2, h => by
    have h' : dec a ++ keyR l = dec b ++ keyR m := by simpa [keyR] using h
    have := cut (dec_ge (h1 a (by simp))) (dec_ge (h2 b (by simp))) (keyR_head l) (keyR_head m) h'
    rw [dec_inj (h1 a (by simp)) (h2 b (by simp)) this.1, keyR_inj (fun x hx => h1 x (by simp [hx])) (fun x hx => h2 x (by simp [hx])) this.2]
theorem keyOf_inj {i j k : Nat} {p q : Nat → Bool} (hi : i < 1000) (hj : j < 1000) (hk : k ≤ 1000) (h : keyOf i p k = keyOf j q k) : i = j ∧ ∀ b, b < k → p b = q b := by
  unfold keyOf at h
  rw [List.append_assoc, List.append_assoc] at h
  have h32 : ∀ r : List UInt8, ∀ c, ([32] ++ r).head? = some c → c.toNat < 48 := by intro r c h; simp at h; subst h; decide
  have h1 := cut (dec_ge hi) (dec_ge hj) (h32 _) (h32 _) h
  refine ⟨dec_inj hi hj h1.1, fun b hb => ?_⟩
  have h2 : keyR (marks p k) = keyR (marks q k) := by simpa using h1.2
  have h3 := keyR_inj (fun a ha => by have := (mem_marks.1 ha).1; omega) (fun a ha => by have := (mem_marks.1 ha).1; omega) h2
  have : b ∈ marks p k ↔ b ∈ marks q k := by rw [h3]
  rw [mem_marks, mem_marks] at this
  rw [Bool.eq_iff_iff]
  exact ⟨fun h => (this.1 ⟨hb, h⟩).2, fun h => (this.2 ⟨hb, h⟩).2⟩

/-! ### Maps by texts -/
theorem findA_str {k : List UInt8} : ∀ {es : List (V × V)} {j : Nat}, (∀ e ∈ es, ∃ s, e.1 = .str s) → findA (.str k) es j = some none ∨ ∃ m v, findA (.str k) es j = some (some (m, v)) ∧ (V.str k, v) ∈ es
  | [], j, _ => .inl rfl
  | (x, y) :: es, j, h => by
    obtain ⟨s, hs⟩ := h (x, y) (by simp)
    simp only at hs; subst hs
    by_cases hk : k = s
    · subst hk; exact .inr ⟨j, y, by simp [findA, eqKey], by simp⟩
    · have e : findA (.str k) ((V.str s, y) :: es) j = findA (.str k) es (j + 1) := by simp [findA, eqKey, beq_false_of_ne hk]
      rw [e]
      exact (findA_str (es := es) (j := j + 1) fun e he => h e (by simp [he])).imp id fun ⟨m, v, h1, h2⟩ => ⟨m, v, h1, by simp [h2]⟩
theorem updA_str {k : List UInt8} {v : V} : ∀ {es : List (V × V)}, (∀ e ∈ es, ∃ s, e.1 = .str s) → ∃ es', updA (.str k) v es = some es' ∧ ∀ e ∈ es', e = (.str k, v) ∨ e ∈ es
  | [], _ => ⟨_, rfl, fun e he => .inl (by simpa using he)⟩
  | (x, y) :: es, h => by
    obtain ⟨s, hs⟩ := h (x, y) (by simp)
    simp only at hs; subst hs
    by_cases hk : k = s
    · subst hk
      refine ⟨(.str k, v) :: es, by simp [updA, eqKey], fun e he => ?_⟩
      rcases List.mem_cons.1 he with rfl | he
      · exact .inl rfl
      · exact .inr (by simp [he])
    · obtain ⟨es', h1, h2⟩ := updA_str (k := k) (v := v) (es := es) fun e he => h e (by simp [he])
      refine ⟨(.str s, y) :: es', by simp [updA, eqKey, beq_false_of_ne hk, h1], fun e he => ?_⟩
      rcases List.mem_cons.1 he with rfl | he
      · exact .inr (by simp)
      · exact (h2 e he).imp id fun h => by simp [h]
theorem mpI {H : AH} {b : Nat} {es es' : List (V × V)} {k v : V} {K : AH → Prop} (h : H[b]? = some (.mp es)) (hu : updA k v es = some es') (hk : K (H.set b (.mp es'))) : mpK H b k v K := by
  unfold mpK; rw [h]; simp only [hu]; exact hk
theorem lkI {H : AH} {b : Nat} {es : List (V × V)} {k : List UInt8} {K1 : V → Prop} {K2 : Prop} (h : H[b]? = some (.mp es)) (hs : ∀ e ∈ es, ∃ s, e.1 = V.str s) (h1 : ∀ v, (V.str k, v) ∈ es → K1 v) (h2 : K2) : lkK H b (.str k) K1 K2 := by
  unfold lkK
  rw [h]
  rcases findA_str (k := k) (es := es) (j := 0) hs with e | ⟨m, v, e, hv⟩
  · simp only [e]; exact h2
  · simp only [e]; exact h1 v hv

/-! ### The memo -/
abbrev notK (kb : Nat) : Nat → Prop := fun y => y ≠ kb
structure IMem (F : Nat → Prop) (mb kb : Nat) (v : V) (x : List Nd) (t : List UInt8) (H : AH) : Prop where
  cell : H[mb]? = some (.cells [v, .str t, .map kb] false)
  nodes : IsNodes F H v x
  got : ∃ es, H[kb]? = some (.mp es) ∧ ∀ e ∈ es, ∃ (i : Nat) (P : PS), i < x.length ∧ (∀ a, P a → a ≤ t.length) ∧ e.1 = .str (keyOf i (dB P) (t.length + 1)) ∧ IsBools (notK kb) H e.2 (bl (t.length + 1) (dB (img (En x t i) P)))

theorem IMem.keep0 {F : Nat → Prop} {mb kb : Nat} {v : V} {x : List Nd} {t : List UInt8} {H H' : AH} (h : IMem F mb kb v x t H) (he : Ext0 H H') : IMem F mb kb v x t H' := by
  obtain ⟨h1, h2, es, h3, h4⟩ := h
  refine ⟨he.get h1 id, h2.keep0 he, es, he.get h3 id, fun e hm => ?_⟩
  obtain ⟨i, P, q1, q2, q3, q4⟩ := h4 e hm
  exact ⟨i, P, q1, q2, q3, q4.keep0 he⟩

def IPost (F : Nat → Prop) (mb kb : Nat) (v : V) (x : List Nd) (t : List UInt8) (H : AH) (P : PS) (r : V) (H' : AH) : Prop :=
  IsBools (notK kb) H' r (bl (t.length + 1) (dB P)) ∧ Ext (fun y => y = kb) H H' ∧ IMem F mb kb v x t H'

theorem IsBools.keepK {H H' : AH} {kb : Nat} {r : V} {l : List Bool} (h : IsBools (notK kb) H r l) (he : Ext (fun y => y = kb) H H') : IsBools (notK kb) H' r l := IsRow.keep h (loc_e1 _ _) (he.agree fun y hy => hy)

theorem img_eq {R : Rel} {P Q : PS} {n : Nat} (hP : ∀ a, P a → a ≤ n) (hQ : ∀ a, Q a → a ≤ n) (h : ∀ b, b < n + 1 → dB P b = dB Q b) (b : Nat) : img R P b ↔ img R Q b := by
  have h' : ∀ a, P a ↔ Q a := fun a => by
    by_cases ha : a < n + 1
    · have := h a ha; rw [Bool.eq_iff_iff, dB_iff, dB_iff] at this; exact this
    · exact ⟨fun h => by have := hP a h; omega, fun h => by have := hQ a h; omega⟩
  exact ⟨fun ⟨a, h1, h2⟩ => ⟨a, (h' a).1 h1, h2⟩, fun ⟨a, h1, h2⟩ => ⟨a, (h' a).2 h1, h2⟩⟩

section
variable {F : Nat → Prop} {mb kb : Nat} {v : V} {x : List Nd} {t : List UInt8} (hok : ∀ i n, x[i]? = some n → NodeOk n i) (hxl : x.length ≤ 300) (htl : t.length ≤ 300) (hFk : ∀ y, F y → y ≠ kb) (hmk : mb ≠ kb)

def IEnds (F : Nat → Prop) (mb kb : Nat) (v : V) (x : List Nd) (t : List UInt8) (i : Nat) : Prop := ∀ (H : AH) (P : PS) (w : V), IMem F mb kb v x t H → IsBools (notK kb) H w (bl (t.length + 1) (dB P)) → (∀ a, P a → a ≤ t.length) →
  CallsA prog impl_matcher_ends [.ptr mb 0, .int .i64 i, w] H fun r H' => IPost F mb kb v x t H (img (En x t i) P) r H'
def IEndsOf (F : Nat → Prop) (mb kb : Nat) (v : V) (x : List Nd) (t : List UInt8) (i : Nat) (nd : Nd) : Prop := ∀ (H : AH) (P : PS) (w : V) (cs : List V), IMem F mb kb v x t H → IsNode F H cs nd → IsBools (notK kb) H w (bl (t.length + 1) (dB P)) → (∀ a, P a → a ≤ t.length) →
  CallsA prog impl_matcher_endsOf [.ptr mb 0, .agg cs, w] H fun r H' => IPost F mb kb v x t H (img (En x t i) P) r H'

include hxl htl hFk hmk in
theorem iends_of {i : Nat} {nd : Nd} (hnd : x[i]? = some nd) (hf : IEndsOf F mb kb v x t i nd) : IEnds F mb kb v x t i := by
  intro H P w hM hw hP
  have hi := (List.getElem?_eq_some_iff.1 hnd).1
  have hw0 := hw
  obtain ⟨fb, fi, fc, rfl, -, -, hcell⟩ := bRow_cell hw
  obtain ⟨es0, hg0, -⟩ := hM.got
  have hkl := get_lt hg0
  have hml := get_lt hM.cell
  refine impl_matcher_ends_in fun D hD => ?_
  rw [impl_matcher_ends_eq hD]
  refine (c_FormatInt (by omega)).use ?_
  rintro _ H1 ⟨hE1, rfl⟩
  have hd := dec_len i
  have hl1 := hE1.1
  refine asStrI ⟨by unfold catOk; omega, ?_⟩
  refine loopUp (σ := Nat × Cap) (t.length + 1) (fun k s => [(7, .sl s.1 0 (keyOf i (dB P) k).length s.2), (18, .int .i64 k), (17, .int .i64 (t.length + 1 : Nat)), (0, .ptr mb 0), (2, .sl fb fi (t.length + 1) fc), (1, .int .i64 i), (16, .sl fb fi (t.length + 1) fc)])
    (fun k s H' => Ext0 H H' ∧ Own H.length 1 H' s.1 (keyOf i (dB P) k).length s.2 ((keyOf i (dB P) k).map byteV)) (H1.length, .toEnd 1) (by simp [keyOf, marks, keyR]) ⟨hE1.trans (Ext.app _ _ _), ?_⟩ ?_
  · have e : keyOf i (dB P) 0 = dec i ++ [32] := by simp [keyOf, marks, keyR]
    simp only [e]
    exact ⟨⟨by simp, by simp; omega⟩, .inr ⟨hl1, get_new _ _, .inr rfl⟩⟩
  rintro k ⟨sb, sc⟩ H2 hk ⟨hE2, hO⟩
  simp only at hO ⊢
  rw [L_impl_matcher_ends_2_eq hD]
  refine splD (fun h => ?_) (fun h => ?_)
  · have hkn : k < t.length + 1 := by omega
    have J4 : ∀ (H' : AH) (b : Nat) (c : Cap) (n : Nat), Ext0 H H' → n = (keyOf i (dB P) (k + 1)).length → Own H.length 1 H' b (keyOf i (dB P) (k + 1)).length c ((keyOf i (dB P) (k + 1)).map byteV) → J_impl_matcher_ends_4 D (fun r H' => IPost F mb kb (v) x t H (img (En x t i) P) r H') (Nxt (σ := Nat × Cap) (t.length + 1) (fun k s => [(7, .sl s.1 0 (keyOf i (dB P) k).length s.2), (18, .int .i64 k), (17, .int .i64 (t.length + 1 : Nat)), (0, .ptr mb 0), (2, .sl fb fi (t.length + 1) fc), (1, .int .i64 i), (16, .sl fb fi (t.length + 1) fc)])
    (fun k s H' => Ext0 H H' ∧ Own H.length 1 H' s.1 (keyOf i (dB P) k).length s.2 ((keyOf i (dB P) k).map byteV)) k) [(18, .int .i64 k), (7, .sl b 0 n c), (17, .int .i64 (t.length + 1 : Nat)), (0, .ptr mb 0), (2, .sl fb fi (t.length + 1) fc), (1, .int .i64 i), (16, .sl fb fi (t.length + 1) fc)] H' := by
      intro H' b c n h1 h2 h3
      subst h2
      rw [J_impl_matcher_ends_4_eq hD, inc (by omega)]
      exact nxt (b, c) hkn rfl ⟨h1, h3⟩
    have hlen := keyOf_len i (dB P) k
    rw [J_impl_matcher_ends_3_eq hD, tn]
    refine ⟨⟨by omega, by omega⟩, ldBool (hE2.cell (hcell k hkn) id) (spl (fun hp => cellsNew rfl ?_) (fun hp => J4 H2 sb sc _ hE2 (by rw [keyOf_no hp]) (by rw [keyOf_no hp]; exact hO)))⟩
    have hEa : Ext0 H2 (H2 ++ [Blk.cells [V.int .u8 44] false]) := Ext.app _ _ _
    refine pushB (s := [44]) (by omega) (by simp) (by simp) (hO.keep hEa fun _ => id) (by have := hE2.1; have := hEa.1; omega) rfl rfl fun b1 c1 H3 hO3 hE3 => ?_
    have hE03 : Ext0 H H3 := (hE2.trans hEa).new (hE3.mono fun y _ hy => .inr hy)
    refine (c_AppendInt (by omega) (by simp; omega) hO3 hE03.1).use ?_
    rintro _ H4 ⟨b2, c2, rfl, hO4, hE4⟩
    rw [← keyOf_yes hp] at hO4 ⊢
    exact asSlI (J4 H4 b2 c2 _ (hE03.new (hE4.mono fun y _ hy => .inr hy)) rfl hO4)
  · have hkn : k = t.length + 1 := by omega
    subst hkn
    generalize hL : keyOf i (dB P) (t.length + 1) = L at hO ⊢
    have hc2 : ∀ {H' : AH}, Ext (fun y => y = kb) H2 H' → ∀ {K : List UInt8 → Prop}, K L → strK H' sb 0 L.length K := by
      intro H' he K hK
      have h1 := (hO.keep he fun h h2 => by omega).cellsN
      rw [Nat.mul_one] at h1
      unfold strK
      rw [h1]
      simp only [bytes_un]
      exact hK
    have hM2 := hM.keep0 hE2
    obtain ⟨es, hg, hes⟩ := hM2.got
    have hx := hM2.nodes
    have hx0 := hx
    obtain ⟨xb, xi, xc, rfl, -⟩ := hx
    rw [J_impl_matcher_ends_1_eq hD, tn]
    refine ldMap (cell_of (i := 2) hM2.cell rfl) (hc2 (Ext.refl _ _) (lkI hg (fun e he => by obtain ⟨j, Q, -, -, h, -⟩ := hes e he; exact ⟨_, h⟩) (fun u hu => ?_) ?_))
    · obtain ⟨j, Q, q1, q2, q3, q4⟩ := hes _ hu
      simp only at q3 q4
      have q3' : keyOf i (dB P) (t.length + 1) = keyOf j (dB Q) (t.length + 1) := by rw [hL]; exact V.str.inj q3
      obtain ⟨rfl, hPQ⟩ := keyOf_inj (by omega) (by omega) (by omega) q3'
      have q5 := bools_val (Q := img (En x t i) P) q4 fun b _ => by rw [dB_iff]; exact (img_eq hP q2 hPQ b).symm
      have q5' := q5
      obtain ⟨ub, ui, uc, rfl, -⟩ := bRow_cell q5
      refine asSlI ?_
      rw [J_impl_matcher_ends_5_eq hD]
      exact ⟨q5', hE2.of0, hM2⟩
    · obtain ⟨nb, ni, nc, kb', ki, kc, c0, c1, c2, c3, c4, hset, hkids⟩ := (hx0.at hnd).read
      refine ldSl (cell_of (i := 0) hM2.cell rfl) ⟨⟨by omega, by omega⟩, ldInt c0 (ldSl c1 (ldSl c2 (ldInt c3 (ldInt c4 ((hf H2 P _ _ hM2 ⟨_, _, _, _, _, _, rfl, hset, hkids⟩ (hw0.keep0 hE2) hP).use ?_)))))⟩
      rintro r H3 ⟨hr, hE3, hM3⟩
      have hr0 := hr
      obtain ⟨rb', ri, rc, rfl, -⟩ := bRow_cell hr
      obtain ⟨es3, hg3, hes3⟩ := hM3.got
      obtain ⟨es4, hu4, hes4⟩ := updA_str (k := L) (v := .sl rb' ri (t.length + 1) rc) (es := es3) fun e he => by obtain ⟨j, Q, -, -, h, -⟩ := hes3 e he; exact ⟨_, h⟩
      refine asSlI (ldMap (cell_of (i := 2) hM3.cell rfl) (hc2 hE3 (mpI hg3 hu4 ?_)))
      generalize hG : H3.set kb (.mp es4) = G
      have hEG : Ext (fun y => y = kb) H3 G := by rw [← hG]; exact Ext.set _ _ _ rfl
      have hGg : G[kb]? = some (.mp es4) := by rw [← hG]; exact get_set _ (get_lt hg3)
      rw [J_impl_matcher_ends_5_eq hD]
      refine ⟨hr0.keepK hEG, (hE2.of0.trans hE3).trans hEG, hEG.get hM3.cell hmk, hM3.nodes.keep hEG hFk, es4, hGg, fun e he => ?_⟩
      rcases hes4 e he with rfl | he
      · exact ⟨i, P, hi, hP, by rw [hL], hr0.keepK hEG⟩
      · obtain ⟨j, Q, q1, q2, q3, q4⟩ := hes3 e he
        exact ⟨j, Q, q1, q2, q3, q4.keepK hEG⟩
end

end Go.Proofs.YtpjkammmoaeheaaDoor.Aw

/- Contracts: the program's ends: any number of times; a node; all. -/
set_option linter.unusedSimpArgs false
set_option linter.unusedVariables false
set_option linter.unusedSectionVars false
set_option maxRecDepth 10000
namespace Go.Proofs.YtpjkammmoaeheaaDoor.Aw
open Go Go.RowKit

/-- At most so often; -1: any number of times. -/
def reps (R : Rel) (P : PS) (m : Int) : PS := fun b => ∃ k : Nat, (m = -1 ∨ (k : Int) ≤ m) ∧ ∃ a, P a ∧ pw R k a b

theorem reps_upTo {R : Rel} {P : PS} {n b : Nat} : reps R P (n : Int) b ↔ upTo R P n b := by
  constructor
  · rintro ⟨k, h, a, ha, hp⟩; exact ⟨k, by omega, a, ha, hp⟩
  · rintro ⟨k, h, a, ha, hp⟩; exact ⟨k, by omega, a, ha, hp⟩
theorem reps_of {R : Rel} {P : PS} {m : Int} {n : Nat} (hn : m = -1 ∨ (n : Int) ≤ m) (h : ∀ b, (∃ a, upTo R P n a ∧ R a b) → upTo R P n b) {b : Nat} : upTo R P n b ↔ reps R P m b := by
  constructor
  · rintro ⟨k, hk, a, ha, hp⟩; exact ⟨k, by omega, a, ha, hp⟩
  · rintro ⟨k, hk, a, ha, hp⟩; exact upTo_closed h k b (upTo_mono (by omega) (show upTo R P k b from ⟨k, Nat.le_refl _, a, ha, hp⟩))

theorem upTo_le {R : Rel} {P : PS} {n N b : Nat} (hle : ∀ a b, a ≤ N → R a b → a ≤ b ∧ b ≤ N) (hP : ∀ a, P a → a ≤ N) : upTo R P n b → b ≤ N := fun ⟨k, _, a, ha, hp⟩ => (pw_le hle k (hP a ha) hp).2

section
variable {F : Nat → Prop} {mb kb : Nat} {v : V} {x : List Nd} {t : List UInt8} (hok : ∀ i n, x[i]? = some n → NodeOk n i) (hxl : x.length ≤ 300) (htl : t.length ≤ 300) (hFk : ∀ y, F y → y ≠ kb) (hmk : mb ≠ kb)

include hok htl in
theorem repeat_of {i : Nat} (hi : i < x.length) (he : IEnds F mb kb v x t i) {H : AH} {P : PS} {w : V} {m : Int} (hm : -1 ≤ m) (hM : IMem F mb kb v x t H) (hw : IsBools (notK kb) H w (bl (t.length + 1) (dB P))) (hP : ∀ a, P a → a ≤ t.length) :
    CallsA prog impl_matcher_repeat [.ptr mb 0, .int .i64 i, w, .int .i64 m] H fun r H' => IPost F mb kb v x t H (reps (En x t i) P m) r H' := by
  have hw0 := hw
  obtain ⟨fb, fi, fc, rfl, -⟩ := bRow_cell hw
  have hle := En_le (t := t) hok i hi
  refine impl_matcher_repeat_in fun D hD => ?_
  rw [impl_matcher_repeat_eq hD]
  refine loopI (fun d env H' => ∃ (gb gi : Nat) (gc : Cap) (ob oi : Nat) (oc : Cap) (n : Nat) (Fr : PS), env = [(10, .sl gb gi (t.length + 1) gc), (9, .sl ob oi (t.length + 1) oc), (11, .int .i64 n), (3, .int .i64 m), (0, .ptr mb 0), (1, .int .i64 i)] ∧
      Ext (fun y => y = kb) H H' ∧ IMem F mb kb v x t H' ∧ IsBools (notK kb) H' (.sl gb gi (t.length + 1) gc) (bl (t.length + 1) (dB Fr)) ∧ IsBools (notK kb) H' (.sl ob oi (t.length + 1) oc) (bl (t.length + 1) (dB (upTo (En x t i) P n))) ∧
      (m = -1 ∨ (n : Int) ≤ m) ∧ (∀ b, Fr b → upTo (En x t i) P n b) ∧ (∀ b, (∃ a, upTo (En x t i) P n a ∧ En x t i a b) → upTo (En x t i) P n b ∨ ∃ a, Fr a ∧ En x t i a b) ∧
      n + d ≤ 2 * (t.length + 1) + 1 ∧ 2 * outs (dB (upTo (En x t i) P n)) (t.length + 1) ≤ d ∧ ((∃ b, Fr b) → 2 * outs (dB (upTo (En x t i) P n)) (t.length + 1) + 1 ≤ d))
    (2 * (t.length + 1) + 1) ⟨fb, fi, fc, fb, fi, fc, 0, P, rfl, Ext.refl _ _, hM, hw0, ?_, by omega, fun b h => upTo_zero.2 h, fun b ⟨a, h1, h2⟩ => .inr ⟨a, upTo_zero.1 h1, h2⟩, by omega, ?_, fun _ => ?_⟩ ?_
  · exact bools_val hw0 fun b _ => by rw [dB_iff, upTo_zero]
  · have := outs_le (dB (upTo (En x t i) P 0)) (t.length + 1); omega
  · have := outs_le (dB (upTo (En x t i) P 0)) (t.length + 1); omega
  rintro d _ H1 ⟨gb, gi, gc, ob, oi, oc, n, Fr, rfl, hE1, hM1, hg, ho, hn, hFr, hcl, hnd, hd1, hd2⟩
  rw [L_impl_matcher_repeat_2_eq hD]
  have fin : ∀ (G : AH), G = H1 → (∀ b, upTo (En x t i) P n b ↔ reps (En x t i) P m b) → J_impl_matcher_repeat_1 D (fun r H' => IPost F mb kb v x t H (reps (En x t i) P m) r H') [(9, .sl ob oi (t.length + 1) oc)] G := by
    rintro _ rfl h
    rw [J_impl_matcher_repeat_1_eq hD]
    exact ⟨bools_val ho fun b _ => by rw [dB_iff]; exact h b, hE1, hM1⟩
  refine splN (fun hnm => ?_) (fun hnm => ?_)
  · refine (c_isEmpty hg).use ?_
    rintro _ H1 ⟨rfl, z, rfl, hz⟩
    refine asBoolI ?_
    rw [J_impl_matcher_repeat_4_eq hD]
    refine splNot (fun hzf => ?_) (fun hzt => fin _ rfl fun b => reps_of hn fun b hb => ?_)
    · have hne : ∃ b, Fr b := by
        apply Classical.byContradiction
        intro hno
        have : z = true := hz.2 fun b _ => dB_false.2 fun h => hno ⟨b, h⟩
        rw [hzf] at this; cases this
      have hd3 := hd2 hne
      have hFrle : ∀ a, Fr a → a ≤ t.length := fun a h => upTo_le hle hP (hFr a h)
      rw [J_impl_matcher_repeat_3_eq hD]
      refine (he H1 Fr _ hM1 hg hFrle).use ?_
      rintro r2 H2 ⟨hr2, hE2, hM2⟩
      have hr2' := hr2
      obtain ⟨_, _, _, rfl, -⟩ := bRow_cell hr2
      have hk2 : kb < H2.length := by obtain ⟨es, h, -⟩ := hM2.got; exact get_lt h
      refine asSlI ((c_without hr2' (ho.keepK hE2)).use ?_)
      rintro r3 H3 ⟨hr3, hE3⟩
      let Fr' : PS := fun b => (∃ a, Fr a ∧ En x t i a b) ∧ ¬ upTo (En x t i) P n b
      have hr3' : IsBools (notK kb) H3 r3 (bl (t.length + 1) (dB Fr')) := (bools_val (Q := Fr') hr3 fun b _ => by rw [Bool.and_eq_true, Bool.not_eq_true', dB_iff, dB_false]; exact Iff.rfl).mono fun y hy => by omega
      have hr3'' := hr3'
      obtain ⟨_, _, _, rfl, -⟩ := bRow_cell hr3'
      have hk3 := hE3.1
      refine asSlI ((c_with ((ho.keepK hE2).keep0 hE3) hr3'').use ?_)
      rintro r4 H4 ⟨hr4, hE4⟩
      have hstep : ∀ b, upTo (En x t i) P (n + 1) b ↔ upTo (En x t i) P n b ∨ Fr' b := fun b => by
        rw [upTo_succ]
        constructor
        · rintro (h | h)
          · exact .inl h
          · rcases hcl b h with h | h
            · exact .inl h
            · by_cases hb : upTo (En x t i) P n b
              · exact .inl hb
              · exact .inr ⟨h, hb⟩
        · rintro (h | ⟨⟨a, h1, h2⟩, -⟩)
          · exact .inl h
          · exact .inr ⟨a, hFr a h1, h2⟩
      have hr4' : IsBools (notK kb) H4 r4 (bl (t.length + 1) (dB (upTo (En x t i) P (n + 1)))) := (bools_val (Q := upTo (En x t i) P (n + 1)) hr4 fun b _ => by rw [Bool.or_eq_true, dB_iff, dB_iff]; exact (hstep b).symm).mono fun y hy => by omega
      have hr4'' := hr4'
      obtain ⟨_, _, _, rfl, -⟩ := bRow_cell hr4'
      refine asSlI ?_
      rw [J_impl_matcher_repeat_5_eq hD, inc (by omega)]
      have hout := outs_mono (p := dB (upTo (En x t i) P n)) (q := dB (upTo (En x t i) P (n + 1))) (k := t.length + 1) fun b _ h => dB_iff.2 (upTo_mono (by omega) (dB_iff.1 h))
      refine ⟨d - 1, by omega, _, _, _, _, _, _, n + 1, Fr', rfl, ((hE1.trans hE2).trans hE3.of0).trans hE4.of0, (hM2.keep0 hE3).keep0 hE4, hr3''.keep0 hE4, hr4'', ?_, fun b h => (hstep b).2 (.inr h), ?_, by omega, ?_, ?_⟩
      · rcases hn with h | h
        · exact .inl h
        · exact .inr (by omega)
      · rintro b ⟨a, h1, h2⟩
        rcases (hstep a).1 h1 with h | h
        · exact .inl (upTo_succ.2 (.inr ⟨a, h, h2⟩))
        · exact .inr ⟨a, h, h2⟩
      · omega
      · rintro ⟨b, hb⟩
        have hbo := (hstep b).2 (.inr hb)
        have := outs_lt (p := dB (upTo (En x t i) P n)) (q := dB (upTo (En x t i) P (n + 1))) (k := t.length + 1) (fun b _ h => dB_iff.2 (upTo_mono (by omega) (dB_iff.1 h))) b (by have := upTo_le hle hP hbo; omega) (dB_false.2 hb.2) (dB_iff.2 hbo)
        omega
    · rcases hcl b hb with h | ⟨a, h1, h2⟩
      · exact h
      · have := hz.1 hzt a (by have := upTo_le hle hP (hFr a h1); omega)
        exact absurd h1 (dB_false.1 this)
  · rw [J_impl_matcher_repeat_4_eq hD]
    refine splF rfl (fin _ rfl fun b => ?_)
    rw [← hnm]; exact reps_upTo.symm
end

end Go.Proofs.YtpjkammmoaeheaaDoor.Aw

/- Contracts: the program's ends of a node, of all nodes. -/
set_option linter.unusedSimpArgs false
set_option linter.unusedVariables false
set_option linter.unusedSectionVars false
set_option maxRecDepth 10000
namespace Go.Proofs.YtpjkammmoaeheaaDoor.Aw
open Go Go.RowKit

def iter (R : Rel) (P : PS) (k : Nat) : PS := fun b => ∃ a, P a ∧ pw R k a b
theorem iter_zero {R : Rel} {P : PS} {b : Nat} : iter R P 0 b ↔ P b := ⟨fun ⟨a, h, e⟩ => by cases e; exact h, fun h => ⟨b, h, rfl⟩⟩
theorem iter_succ {R : Rel} {P : PS} {k b : Nat} : iter R P (k + 1) b ↔ img R (iter R P k) b := ⟨fun ⟨a, h, m, h1, h2⟩ => ⟨m, ⟨a, h, h1⟩, h2⟩, fun ⟨m, ⟨a, h, h1⟩, h2⟩ => ⟨a, h, m, h1, h2⟩⟩
theorem iter_fix {R : Rel} {P : PS} {k : Nat} (h : ∀ b, iter R P (k + 1) b ↔ iter R P k b) : ∀ d b, iter R P (k + d) b ↔ iter R P k b
  | 0, b => Iff.rfl
  | d + 1, b => by
    have ih := iter_fix h d
    rw [← h b]
    show iter R P ((k + d) + 1) b ↔ _
    rw [iter_succ, iter_succ]
    exact ⟨fun ⟨a, h1, h2⟩ => ⟨a, (ih a).1 h1, h2⟩, fun ⟨a, h1, h2⟩ => ⟨a, (ih a).2 h1, h2⟩⟩
theorem reps_iter {R : Rel} {P : PS} {n : Nat} {m m' : Int} (hm : m = -1 ∧ m' = -1 ∨ m' ≠ -1 ∧ m = m' - n ∧ (n : Int) ≤ m') {b : Nat} : reps R (iter R P n) m b ↔ ∃ a, P a ∧ ∃ k, n ≤ k ∧ (m' = -1 ∨ (k : Int) ≤ m') ∧ pw R k a b := by
  constructor
  · rintro ⟨k, hk, c, ⟨a, ha, h1⟩, h2⟩
    exact ⟨a, ha, n + k, by omega, by omega, pw_add h1 h2⟩
  · rintro ⟨a, ha, k, h1, h2, h3⟩
    obtain ⟨d, rfl⟩ : ∃ d, k = n + d := ⟨k - n, by omega⟩
    obtain ⟨c, q1, q2⟩ := pw_split h3
    exact ⟨d, by omega, c, ⟨a, ha, q1⟩, q2⟩

section
variable {F : Nat → Prop} {mb kb : Nat} {v : V} {x : List Nd} {t : List UInt8} (hok : ∀ i n, x[i]? = some n → NodeOk n i) (hxl : x.length ≤ 300) (htl : t.length ≤ 300) (hFk : ∀ y, F y → y ≠ kb) (hmk : mb ≠ kb)

include hok hxl htl hFk hmk in
theorem iendsOf_of {i : Nat} {nd : Nd} (hnd : x[i]? = some nd) (he : ∀ j, j < i → IEnds F mb kb v x t j) : IEndsOf F mb kb v x t i nd := by
  intro H P w cs hM hn hw hP
  have hi := (List.getElem?_eq_some_iff.1 hnd).1
  have okn := hok i nd hnd
  have hw0 := hw
  obtain ⟨fb, fi, fc, rfl, -, -, hcell⟩ := bRow_cell hw
  obtain ⟨sb, si, sc, kb', ki, kc, rfl, hset, hkids⟩ := hn
  obtain ⟨es0, hg0, -⟩ := hM.got
  have hkl := get_lt hg0
  have hml := get_lt hM.cell
  refine impl_matcher_endsOf_in fun D hD => ?_
  rw [impl_matcher_endsOf_eq hD]
  generalize hG0 : H ++ [Blk.cells [V.int .i64 nd.op, .sl sb si nd.set.length sc, .sl kb' ki nd.kids.length kc, .int .i64 nd.mn, .int .i64 nd.mx] false] = G0
  have hE0 : Ext0 H G0 := by rw [← hG0]; exact Ext.app _ _ _
  have lG : G0.length = H.length + 1 := by rw [← hG0]; simp
  have gN : G0[H.length]? = some (.cells [V.int .i64 nd.op, .sl sb si nd.set.length sc, .sl kb' ki nd.kids.length kc, .int .i64 nd.mn, .int .i64 nd.mx] false) := by rw [← hG0]; exact get_new _ _
  let S (G : AH) : Prop := Ext (fun y => y = kb) H G ∧ IMem F mb kb v x t G ∧ G[H.length]? = some (.cells [V.int .i64 nd.op, .sl sb si nd.set.length sc, .sl kb' ki nd.kids.length kc, .int .i64 nd.mn, .int .i64 nd.mx] false)
  have hS0 : S G0 := ⟨hE0.of0, hM.keep0 hE0, gN⟩
  have n0 : ∀ {G : AH}, S G → G.cell H.length 0 = some (.int .i64 nd.op) := fun h => cell_of (i := 0) h.2.2 rfl
  have n1 : ∀ {G : AH}, S G → G.cell H.length 1 = some (.sl sb si nd.set.length sc) := fun h => cell_of (i := 1) h.2.2 rfl
  have n2 : ∀ {G : AH}, S G → G.cell H.length 2 = some (.sl kb' ki nd.kids.length kc) := fun h => cell_of (i := 2) h.2.2 rfl
  have n3 : ∀ {G : AH}, S G → G.cell H.length 3 = some (.int .i64 nd.mn) := fun h => cell_of (i := 3) h.2.2 rfl
  have n4 : ∀ {G : AH}, S G → G.cell H.length 4 = some (.int .i64 nd.mx) := fun h => cell_of (i := 4) h.2.2 rfl
  have kk : ∀ {G : AH}, S G → ∀ {m z}, nd.kids[m]? = some z → G.cell kb' (ki + m * 1) = some (.int .i64 z) := fun h => fun hz =>
    IsInts.at (IsRow.keep hkids (loc_e1 _ _) (h.1.agree fun y hy => hFk y hy)) hz
  have pS : ∀ {G G' : AH} {Q : PS} {r : V}, S G → IPost F mb kb v x t G Q r G' → S G' := fun h hp => ⟨h.1.trans hp.2.1, hp.2.2, hp.2.1.get h.2.2 (by omega)⟩
  have eS : ∀ {G G' : AH}, S G → Ext0 G G' → S G' := fun h hp => ⟨h.1.trans hp.of0, h.2.1.keep0 hp, hp.get h.2.2 id⟩
  have done : ∀ {G G' : AH} {Q : PS} {r : V}, S G → IPost F mb kb v x t G Q r G' → (∀ b, Q b ↔ img (En x t i) P b) → IPost F mb kb v x t H (img (En x t i) P) r G' := fun h hp e =>
    ⟨bools_val hp.1 fun b _ => by rw [dB_iff]; exact e b, h.1.trans hp.2.1, hp.2.2⟩
  have wS : ∀ {G : AH}, S G → IsBools (notK kb) G (.sl fb fi (t.length + 1) fc) (bl (t.length + 1) (dB P)) := fun h => hw0.keepK h.1
  have kidle : ∀ {z : Int}, z ∈ nd.kids → ∀ a b, a ≤ t.length → En x t z.toNat a b → a ≤ b ∧ b ≤ t.length := fun {z} hz => by
    have h := okn.kid z hz
    exact En_le hok z.toNat (by omega)
  have kidE : ∀ {z : Int} {G : AH} {u : V} {Q : PS}, z ∈ nd.kids → S G → IsBools (notK kb) G u (bl (t.length + 1) (dB Q)) → (∀ a, Q a → a ≤ t.length) → CallsA prog impl_matcher_ends [.ptr mb 0, .int .i64 z, u] G fun r H' => IPost F mb kb v x t G (img (En x t z.toNat) Q) r H' := fun {z G u Q} hz hS hu hQ => by
    have h := okn.kid z hz
    have e : z = ((z.toNat : Nat) : Int) := by omega
    have := he z.toNat (by omega) G Q u hS.2.1 hu hQ
    rwa [← e] at this
  have kidR : ∀ {z : Int} {G : AH} {u : V} {Q : PS} {m : Int}, -1 ≤ m → z ∈ nd.kids → S G → IsBools (notK kb) G u (bl (t.length + 1) (dB Q)) → (∀ a, Q a → a ≤ t.length) → CallsA prog impl_matcher_repeat [.ptr mb 0, .int .i64 z, u, .int .i64 m] G fun r H' => IPost F mb kb v x t G (reps (En x t z.toNat) Q m) r H' := fun {z G u Q m} hm hz hS hu hQ => by
    have h := okn.kid z hz
    have e : z = ((z.toNat : Nat) : Int) := by omega
    have := repeat_of hok htl (by omega) (he z.toNat (by omega)) hm hS.2.1 hu hQ
    rwa [← e] at this
  have imgle : ∀ {z : Int} {Q : PS}, z ∈ nd.kids → (∀ a, Q a → a ≤ t.length) → ∀ b, img (En x t z.toNat) Q b → b ≤ t.length := fun hz hQ b ⟨a, h1, h2⟩ => (kidle hz a b (hQ a h1) h2).2
  refine ldInt (n0 hS0) (splE (fun h1 => ?_) (fun h1 => splE (fun h2' => ?_) (fun h2 => splE (fun h3 => ?_) (fun h3 => splE (fun h4 => ?_) (fun h4 => splE (fun h5 => ?_) (fun h5 => splE (fun h6 => ?_) (fun h6 => splE (fun h7 => ?_) (fun h7 => ?_))))))))
  · exact done hS0 ⟨wS hS0, Ext.refl _ _, hS0.2.1⟩ fun b => ⟨fun h => ⟨b, h, (En1 hok hnd h1).2 rfl⟩, fun ⟨a, ha, h⟩ => by rw [← (En1 hok hnd h1).1 h]; exact ha⟩
  · -- a set
    obtain ⟨okS, -⟩ := okn.set h2'
    refine ldSl (n1 hS0) ?_
    rw [tn, rep_bools, bV_rep]
    refine ⟨⟨by omega, by omega, by omega, by omega⟩, ?_⟩
    generalize hG1 : G0 ++ [Blk.cells (bV (t.length + 1) fun _ => false) false] = G1
    have l1 : G1.length = H.length + 2 := by rw [← hG1]; simp [lG]
    have g1 : G1[H.length + 1]? = some (.cells (bV (t.length + 1) fun _ => false) false) := by rw [← hG1, ← lG]; exact get_new _ _
    generalize hG2 : G1 ++ [Blk.cells (bV 256 fun _ => false) false] = G2
    have g2 : G2[H.length + 2]? = some (.cells (bV 256 fun _ => false) false) := by rw [← hG2, ← l1]; exact get_new _ _
    have hE12 : Ext0 G1 G2 := by rw [← hG2]; exact Ext.app _ _ _
    have hE02 : Ext0 G0 G2 := by refine Ext.trans (H1 := G1) ?_ hE12; rw [← hG1]; exact Ext.app _ _ _
    rw [l1, lG]
    refine (c_bytesOf (hset.keep0 (hE0.trans hE02)) okS).use ?_
    rintro _ G3 ⟨rfl, hE3⟩
    refine ⟨hE3.get g2 id, hE3.get (hE12.get g1 id) id, obI (bV_ok _ _) ?_⟩
    refine stAll (hE3.get g2 id) (by rw [bV_len]; exact (bV_len _ _)) ?_
    generalize hG4 : G3.set (H.length + 2) (.cells (V.agg (bV 256 (mk nd.set))).cells false) = G4
    have hE34 : Ext (fun y => y = H.length + 2) G3 G4 := by rw [← hG4]; exact Ext.set _ _ _ rfl
    have hE04 : Ext0 H G4 := ((hE0.trans hE02).trans hE3).new (hE34.mono fun y _ hy => .inr (by omega))
    have g4o : G4[H.length + 1]? = some (.cells (bV (t.length + 1) fun _ => false) false) := hE34.get (hE3.get (hE12.get g1 id) id) (by omega)
    have g4h : G4[H.length + 2]? = some (.cells (bV 256 (mk nd.set)) false) := by rw [← hG4]; exact get_set _ (get_lt (hE3.get g2 id))
    have mt : ∀ {G : AH}, Ext0 H G → G.cell mb (0 + 1) = some (.str t) := fun h => h.cell (cell_of (i := 1) hM.cell rfl) id
    refine ⟨g4o, ldStr (mt hE04) ?_⟩
    let q (k : Nat) : Nat → Bool := fun b => decide (∃ a, a < k ∧ b = a + 1 ∧ dB P a = true ∧ mk nd.set (byteAt t a).toNat = true)
    refine loopUp (σ := Unit) t.length (fun k _ => [(29, .int .i64 k), (28, .int .i64 t.length), (8, .sl (H.length + 1) 0 (t.length + 1) (.ex (t.length + 1))), (2, .sl fb fi (t.length + 1) fc), (0, .ptr mb 0), (7, .ptr (H.length + 2) 0)])
      (fun k _ H' => Ext0 H H' ∧ H'[H.length + 2]? = some (.cells (bV 256 (mk nd.set)) false) ∧ ∃ q : Nat → Bool, H'[H.length + 1]? = some (.cells (bV (t.length + 1) q) false) ∧ ∀ b, q b = true ↔ ∃ a, a < k ∧ b = a + 1 ∧ P a ∧ mk nd.set (byteAt t a).toNat = true) () rfl
      ⟨hE04, g4h, _, g4o, fun b => ⟨fun h => by simp at h, fun ⟨a, h, _⟩ => by omega⟩⟩ ?_
    rintro k - H5 hk ⟨hE5, g5h, q, g5o, hq⟩
    rw [L_impl_matcher_endsOf_3_eq hD]
    refine splD (fun h => ?_) (fun h => ?_)
    · have hkt : k < t.length := by omega
      have st : ∀ z : Bool, (z = true ↔ P k ∧ mk nd.set (byteAt t k).toNat = true) → stK H5 (H.length + 1) (0 + (IntKind.i64.wrap ((k : Int) + 1)).toNat * 1) [V.bool z] fun H6 => J_impl_matcher_endsOf_7 D (fun r H' => IPost F mb kb v x t H (img (En x t i) P) r H') (Nxt (σ := Unit) t.length (fun k _ => [(29, .int .i64 k), (28, .int .i64 t.length), (8, .sl (H.length + 1) 0 (t.length + 1) (.ex (t.length + 1))), (2, .sl fb fi (t.length + 1) fc), (0, .ptr mb 0), (7, .ptr (H.length + 2) 0)])
      (fun k _ H' => Ext0 H H' ∧ H'[H.length + 2]? = some (.cells (bV 256 (mk nd.set)) false) ∧ ∃ q : Nat → Bool, H'[H.length + 1]? = some (.cells (bV (t.length + 1) q) false) ∧ ∀ b, q b = true ↔ ∃ a, a < k ∧ b = a + 1 ∧ P a ∧ mk nd.set (byteAt t a).toNat = true) k) [(29, .int .i64 k), (28, .int .i64 t.length), (8, .sl (H.length + 1) 0 (t.length + 1) (.ex (t.length + 1))), (2, .sl fb fi (t.length + 1) fc), (0, .ptr mb 0), (7, .ptr (H.length + 2) 0)] H6 := by
        intro z hz
        rw [inc (by omega), tn]
        refine bst (fun b => if b = k + 1 then z else q b) g5o (by omega) (fun b _ => by rw [show 0 + (k + 1) * 1 = k + 1 by omega]) ?_
        rw [J_impl_matcher_endsOf_7_eq hD, inc (by omega)]
        refine nxt () hkt rfl ⟨hE5.new (Ext.set _ _ _ (.inr (by omega))), (Ext.set (X := fun y => y = H.length + 1) _ _ _ rfl).get g5h (by omega), _, get_set _ (get_lt g5o), fun b => ?_⟩
        show (if b = k + 1 then z else q b) = true ↔ _
        by_cases hb : b = k + 1
        · rw [if_pos hb, hz]
          refine ⟨fun ⟨h1, h2⟩ => ⟨k, by omega, hb, h1, h2⟩, fun ⟨a, h1, h2, h3, h4⟩ => ?_⟩
          have e : a = k := by omega
          rw [e] at h3 h4; exact ⟨h3, h4⟩
        · rw [if_neg hb, hq]
          exact ⟨fun ⟨a, h1, h2⟩ => ⟨a, by omega, h2⟩, fun ⟨a, h1, h2, h3⟩ => ⟨a, by omega, h2, h3⟩⟩
      rw [J_impl_matcher_endsOf_4_eq hD]
      have hin : inB (IntKind.i64.wrap ((k : Int) + 1)) (t.length + 1) := by rw [inc (by omega)]; exact ⟨by omega, by omega⟩
      have h256 : (byteAt t k).toNat < 256 := (byteAt t k).toNat_lt
      refine ⟨⟨by omega, by omega⟩, ldBool (by rw [tn]; exact hE5.cell (hcell k (by omega)) id) (spl (fun hp => ldStr (mt hE5) ⟨⟨by omega, by omega⟩, ⟨by omega, by omega⟩, ldBool (by rw [tn, Nat.zero_add, Nat.mul_one]; exact bcell g5h h256) ⟨hin, st _ ?_⟩⟩) (fun hp => ⟨hin, st false ?_⟩))⟩
      · exact ⟨fun h => ⟨dB_iff.1 hp, h⟩, fun h => h.2⟩
      · exact ⟨fun h => (by cases h), fun h => absurd h.1 (dB_false.1 hp)⟩
    · rw [J_impl_matcher_endsOf_2_eq hD]
      refine ⟨bools_val (bRow g5o (by omega) (by omega)) fun b _ => ?_, hE5.of0, hM.keep0 hE5⟩
      rw [hq]
      have hkt : k = t.length := by omega
      constructor
      · rintro ⟨a, h1, h2, h3, h4⟩
        refine ⟨a, h3, (En2 hok hnd h2').2 ⟨t[a], List.getElem?_eq_getElem (by omega), ?_, h2⟩⟩
        rwa [show byteAt t a = t[a] by simp [byteAt, show a < t.length by omega]] at h4
      · rintro ⟨a, h3, h4⟩
        obtain ⟨c, q1, q2, q3⟩ := (En2 hok hnd h2').1 h4
        obtain ⟨q4, rfl⟩ := List.getElem?_eq_some_iff.1 q1
        exact ⟨a, by omega, q3, h3, by rwa [show byteAt t a = t[a] by simp [byteAt, q4]]⟩
  · -- one behind the other
    obtain ⟨y, z, hyz⟩ := kids2 okn (.inl h3)
    have k0 : ∀ {G : AH}, S G → G.cell kb' ki = some (.int .i64 y) := fun h => by have := kk h (m := 0) (z := y) (by rw [hyz]; rfl); rwa [Nat.zero_mul, Nat.add_zero] at this
    have k1 : ∀ {G : AH}, S G → G.cell kb' (ki + 1) = some (.int .i64 z) := fun h => by have := kk h (m := 1) (z := z) (by rw [hyz]; rfl); rwa [Nat.one_mul] at this
    have hkl : nd.kids.length = 2 := by rw [hyz]; rfl
    refine ldSl (n2 hS0) ⟨⟨by omega, by omega⟩, ldInt (k1 hS0) (ldSl (n2 hS0) ⟨⟨by omega, by omega⟩, ldInt (k0 hS0) ((kidE (by rw [hyz]; simp) hS0 (wS hS0) hP).use ?_)⟩)⟩
    rintro r G hp
    have hS := pS hS0 hp
    have hr := hp.1
    obtain ⟨_, _, _, rfl, -⟩ := bRow_cell hp.1
    refine asSlI ⟨k1 hS, n2 hS, (kidE (by rw [hyz]; simp) hS hr (imgle (by rw [hyz]; simp) hP)).use ?_⟩
    rintro r2 G2 hp2
    obtain ⟨_, _, _, rfl, -⟩ := bRow_cell hp2.1
    refine asSlI (done hS hp2 fun b => ?_)
    constructor
    · rintro ⟨m, ⟨a, ha, q1⟩, q2⟩; exact ⟨a, ha, (En3 hok hnd h3 hyz).2 ⟨m, q1, q2⟩⟩
    · rintro ⟨a, ha, q⟩
      obtain ⟨m, q1, q2⟩ := (En3 hok hnd h3 hyz).1 q
      exact ⟨m, ⟨a, ha, q1⟩, q2⟩
  · -- one of two
    obtain ⟨y, z, hyz⟩ := kids2 okn (.inr h4)
    have k0 : ∀ {G : AH}, S G → G.cell kb' ki = some (.int .i64 y) := fun h => by have := kk h (m := 0) (z := y) (by rw [hyz]; rfl); rwa [Nat.zero_mul, Nat.add_zero] at this
    have k1 : ∀ {G : AH}, S G → G.cell kb' (ki + 1) = some (.int .i64 z) := fun h => by have := kk h (m := 1) (z := z) (by rw [hyz]; rfl); rwa [Nat.one_mul] at this
    have hkl : nd.kids.length = 2 := by rw [hyz]; rfl
    refine ldSl (n2 hS0) ⟨⟨by omega, by omega⟩, ldInt (k0 hS0) (ldSl (n2 hS0) ⟨⟨by omega, by omega⟩, ldInt (k1 hS0) ((kidE (by rw [hyz]; simp) hS0 (wS hS0) hP).use ?_)⟩)⟩
    rintro r G hp
    have hS := pS hS0 hp
    have hr := hp.1
    obtain ⟨_, _, _, rfl, -⟩ := bRow_cell hp.1
    refine asSlI ⟨k1 hS, n2 hS, (kidE (by rw [hyz]; simp) hS (wS hS) hP).use ?_⟩
    rintro r2 G2 hp2
    have hS2 := pS hS hp2
    have hr2 := hp2.1
    obtain ⟨_, _, _, rfl, -⟩ := bRow_cell hp2.1
    have hk2 : kb < G2.length := by obtain ⟨es, h, -⟩ := hp2.2.2.got; exact get_lt h
    refine asSlI ((c_with (hr.keepK hp2.2.1) hr2).use ?_)
    rintro r3 G3 ⟨hr3, hE3⟩
    have hr3' : IsBools (notK kb) G3 r3 (bl (t.length + 1) (dB (img (En x t i) P))) := (bools_val (Q := img (En x t i) P) hr3 fun b _ => by
      rw [Bool.or_eq_true, dB_iff, dB_iff]
      constructor
      · rintro (⟨a, ha, q⟩ | ⟨a, ha, q⟩)
        · exact ⟨a, ha, (En4 hok hnd h4 hyz).2 (.inl q)⟩
        · exact ⟨a, ha, (En4 hok hnd h4 hyz).2 (.inr q)⟩
      · rintro ⟨a, ha, q⟩
        exact ((En4 hok hnd h4 hyz).1 q).imp (fun q => ⟨a, ha, q⟩) (fun q => ⟨a, ha, q⟩)).mono fun y hy => by omega
    have hr3'' := hr3'
    obtain ⟨_, _, _, rfl, -⟩ := bRow_cell hr3'
    exact asSlI ⟨hr3'', hS2.1.trans hE3.of0, hS2.2.1.keep0 hE3⟩
  all_goals
    obtain ⟨z, hz⟩ := kids1 okn (by have := okn.op1; have := okn.op8; omega)
    have hzm : z ∈ nd.kids := by rw [hz]; simp
    have k0 : ∀ {G : AH}, S G → G.cell kb' ki = some (.int .i64 z) := fun h => by have := kk h (m := 0) (z := z) (by rw [hz]; rfl); rwa [Nat.zero_mul, Nat.add_zero] at this
    have hkl : nd.kids.length = 1 := by rw [hz]; rfl
    have hle := kidle hzm
  · refine ldSl (n2 hS0) ⟨⟨by omega, by omega⟩, ldInt (k0 hS0) ((kidR (by omega) hzm hS0 (wS hS0) hP).use ?_)⟩
    rintro r G hp
    obtain ⟨_, _, _, rfl, -⟩ := bRow_cell hp.1
    refine asSlI (done hS0 hp fun b => ?_)
    constructor
    · rintro ⟨k, -, a, ha, q⟩; exact ⟨a, ha, (En5 hok hnd h5 hz).2 ⟨k, q⟩⟩
    · rintro ⟨a, ha, q⟩
      obtain ⟨k, q⟩ := (En5 hok hnd h5 hz).1 q
      exact ⟨k, .inl rfl, a, ha, q⟩
  · refine ldSl (n2 hS0) ⟨⟨by omega, by omega⟩, ldInt (k0 hS0) (ldSl (n2 hS0) ⟨⟨by omega, by omega⟩, ldInt (k0 hS0) ((kidE hzm hS0 (wS hS0) hP).use ?_)⟩)⟩
    rintro r G hp
    have hS := pS hS0 hp
    have hr := hp.1
    obtain ⟨_, _, _, rfl, -⟩ := bRow_cell hp.1
    refine asSlI ⟨k0 hS, n2 hS, (kidR (by omega) hzm hS hr (imgle hzm hP)).use ?_⟩
    rintro r2 G2 hp2
    obtain ⟨_, _, _, rfl, -⟩ := bRow_cell hp2.1
    refine asSlI (done hS hp2 fun b => ?_)
    constructor
    · rintro ⟨k, -, c, ⟨a, ha, q1⟩, q2⟩
      have := pw_add (pw_one.2 q1) q2
      rw [Nat.add_comm] at this
      exact ⟨a, ha, (En6 hok hnd h6 hz).2 ⟨k, this⟩⟩
    · rintro ⟨a, ha, q⟩
      obtain ⟨k, q⟩ := (En6 hok hnd h6 hz).1 q
      rw [Nat.add_comm] at q
      obtain ⟨c, q1, q2⟩ := pw_split q
      exact ⟨k, .inl rfl, c, ⟨a, ha, pw_one.1 q1⟩, q2⟩
  · refine ldSl (n2 hS0) ⟨⟨by omega, by omega⟩, ldInt (k0 hS0) ((kidR (by omega) hzm hS0 (wS hS0) hP).use ?_)⟩
    rintro r G hp
    obtain ⟨_, _, _, rfl, -⟩ := bRow_cell hp.1
    refine asSlI (done hS0 hp fun b => ?_)
    rw [show (1 : Int) = ((1 : Nat) : Int) from rfl, reps_upTo, upTo_succ, upTo_zero]
    constructor
    · rintro (h | ⟨a, ha, q⟩)
      · exact ⟨b, h, (En7 hok hnd h7 hz).2 (.inl rfl)⟩
      · exact ⟨a, upTo_zero.1 ha, (En7 hok hnd h7 hz).2 (.inr q)⟩
    · rintro ⟨a, ha, q⟩
      rcases (En7 hok hnd h7 hz).1 q with rfl | q
      · exact .inl ha
      · exact .inr ⟨a, upTo_zero.2 ha, q⟩
  · -- between two counts
    have h8 : nd.op = 8 := by have := okn.op1; have := okn.op8; omega
    obtain ⟨m0, m30, hmx⟩ := okn.times h8
    obtain ⟨M, hM8⟩ : ∃ M : Nat, nd.mn = M := ⟨nd.mn.toNat, by omega⟩
    have ple : ∀ k b, iter (En x t z.toNat) P k b → b ≤ t.length := fun k b ⟨a, ha, h⟩ => (pw_le hle k (hP a ha) h).2
    have tail : ∀ (G : AH) (u : V), S G → IsBools (notK kb) G u (bl (t.length + 1) (dB (iter (En x t z.toNat) P M))) → J_impl_matcher_endsOf_5 D (fun r H' => IPost F mb kb v x t H (img (En x t i) P) r H') [(0, .ptr mb 0), (4, .ptr H.length 0), (2, u)] G := by
      intro G u hS hu
      have hu0 := hu
      obtain ⟨ub, ui, uc, rfl, -⟩ := bRow_cell hu
      rw [J_impl_matcher_endsOf_5_eq hD]
      have last : ∀ {m : Int} {r : V} {G' : AH}, (m = -1 ∧ nd.mx = -1 ∨ nd.mx ≠ -1 ∧ m = nd.mx - M ∧ (M : Int) ≤ nd.mx) → IPost F mb kb v x t G (reps (En x t z.toNat) (iter (En x t z.toNat) P M) m) r G' → IPost F mb kb v x t H (img (En x t i) P) r G' := fun {m r G'} hm hp => done hS hp fun b => by
        rw [reps_iter hm]
        constructor
        · rintro ⟨a, ha, k, q1, q2, q3⟩; exact ⟨a, ha, (En8 hok hnd h8 hz).2 ⟨k, by omega, q2, q3⟩⟩
        · rintro ⟨a, ha, q⟩
          obtain ⟨k, q1, q2, q3⟩ := (En8 hok hnd h8 hz).1 q
          exact ⟨a, ha, k, by omega, q2, q3⟩
      refine ldInt (n4 hS) (splD (fun hneg => ldSl (n2 hS) ⟨⟨by omega, by omega⟩, ldInt (k0 hS) ((kidR (by omega) hzm hS hu0 (ple M)).use ?_)⟩) (fun hneg => ?_))
      · rintro r G2 hp2
        have hp20 := hp2
        obtain ⟨_, _, _, rfl, -⟩ := bRow_cell hp2.1
        exact asSlI (last (by omega) hp20)
      · rw [J_impl_matcher_endsOf_11_eq hD]
        refine ldSl (n2 hS) ⟨⟨by omega, by omega⟩, ldInt (k0 hS) (ldInt (n4 hS) (ldInt (n3 hS) ?_))⟩
        rw [w64 (by omega) (by omega)]
        refine (kidR (by omega) hzm hS hu0 (ple M)).use ?_
        rintro r G2 hp2
        have hp20 := hp2
        obtain ⟨_, _, _, rfl, -⟩ := bRow_cell hp2.1
        exact asSlI (last (by omega) hp20)
    rw [J_impl_matcher_endsOf_1_eq hD]
    refine ldInt (n3 hS0) ?_
    rw [hM8]
    refine loopUp (σ := V) M (fun k u => [(118, .int .i64 M), (119, .int .i64 k), (0, .ptr mb 0), (4, .ptr H.length 0), (2, u)]) (fun k u H' => S H' ∧ IsBools (notK kb) H' u (bl (t.length + 1) (dB (iter (En x t z.toNat) P k)))) _ rfl
      ⟨hS0, bools_val (wS hS0) fun b _ => by rw [dB_iff, iter_zero]⟩ ?_
    rintro k u G hk ⟨hS, hu⟩
    have hu0 := hu
    obtain ⟨ub, ui, uc, rfl, -⟩ := bRow_cell hu
    rw [L_impl_matcher_endsOf_6_eq hD]
    refine splD (fun h => ?_) (fun h => tail G _ hS (by rw [show M = k by omega]; exact hu0))
    rw [J_impl_matcher_endsOf_8_eq hD]
    refine ldSl (n2 hS) ⟨⟨by omega, by omega⟩, ldInt (k0 hS) ((kidE hzm hS hu0 (ple k)).use ?_)⟩
    rintro r G2 hp2
    have hS2 := pS hS hp2
    have hr2 := bools_val (Q := iter (En x t z.toNat) P (k + 1)) hp2.1 fun b _ => by rw [dB_iff]; exact iter_succ.symm
    have hr20 := hr2
    obtain ⟨_, _, _, rfl, -⟩ := bRow_cell hr2
    refine asSlI ((c_same hr20 (hu0.keepK hp2.2.1)).use ?_)
    rintro _ G3 ⟨hE3, y, rfl, hy⟩
    have hS3 := eS hS2 hE3
    refine asBoolI (spl (fun hyt => tail G3 _ hS3 ?_) (fun _ => ?_))
    · have hfix : ∀ b, iter (En x t z.toNat) P (k + 1) b ↔ iter (En x t z.toNat) P k b := fun b => by
        by_cases hb : b < t.length + 1
        · have := hy.1 hyt b hb
          rw [Bool.eq_iff_iff, dB_iff, dB_iff] at this; exact this
        · exact ⟨fun h => by have := ple _ b h; omega, fun h => by have := ple _ b h; omega⟩
      exact bools_val ((hu0.keepK hp2.2.1).keep0 hE3) fun b _ => by
        rw [dB_iff, show M = k + (M - k) by omega]; exact (iter_fix hfix _ b).symm
    · rw [J_impl_matcher_endsOf_10_eq hD, J_impl_matcher_endsOf_9_eq hD, inc (by omega)]
      exact nxt _ (by omega) rfl ⟨hS3, hr20.keep0 hE3⟩

include hok hxl htl hFk hmk in
theorem all_iends : ∀ (i : Nat), i < x.length → IEnds F mb kb v x t i := by
  intro i
  induction i using Nat.strongRecOn with
  | _ i ih =>
    intro hi
    exact iends_of hxl htl hFk hmk (List.getElem?_eq_getElem hi) (iendsOf_of hok hxl htl hFk hmk (List.getElem?_eq_getElem hi) fun j hj => ih j hj (by omega))
end

end Go.Proofs.YtpjkammmoaeheaaDoor.Aw

/- Contracts: the program's list of ends. -/
set_option linter.unusedSimpArgs false
set_option linter.unusedVariables false
set_option maxRecDepth 10000
namespace Go.Proofs.YtpjkammmoaeheaaDoor.Aw
open Go Go.RowKit

theorem c_last {H : AH} {b i n : Nat} {c : Cap} (hn : 1 ≤ n) (hn2 : n ≤ 1000000) : CallsA prog impl_Rx_last [.agg [.sl b i n c]] H fun r H' => r = .int .i64 ((n - 1 : Nat) : Int) ∧ Ext0 H H' := by
  refine impl_Rx_last_in fun D hD => ?_
  rw [impl_Rx_last_eq hD]
  refine ldSl (cell_of (i := 0) (get_new _ _) rfl) ((c_size _ _ _ _ _).use ?_)
  rintro _ H1 ⟨rfl, rfl⟩
  refine asIntI ⟨?_, Ext.app _ _ _⟩
  rw [w64 (by omega) (by omega)]
  congr 1; omega

theorem c_implEndsAt {F : Nat → Prop} {H : AH} {v : V} {x : List Nd} {t : List UInt8} {pl : Int} (hx : IsNodes F H v x) : CallsA prog impl_EndsAt [.agg [v], .str t, .int .i64 pl] H fun r H' => IsInts (fun y => H.length ≤ y) H' r (endsOf x t pl) ∧ Ext0 H H' := by
  have hx0 := hx
  obtain ⟨xb, xi, xc, rfl, -⟩ := hx
  refine impl_EndsAt_in fun D hD => ?_
  rw [impl_EndsAt_eq hD]
  generalize hG : H ++ [Blk.cells [V.sl xb xi x.length xc] false] = G
  have hEG : Ext0 H G := by rw [← hG]; exact Ext.app _ _ _
  have gX : G[H.length]? = some (.cells [V.sl xb xi x.length xc] false) := by rw [← hG]; exact get_new _ _
  have J2 : ∀ (b : Bool) (G1 : AH), Ext0 G G1 → (b = true → ¬ (RxOk x ∧ t.length ≤ 300 ∧ 0 ≤ pl ∧ pl ≤ t.length)) → (b = false → RxOk x ∧ t.length ≤ 300 ∧ 0 ≤ pl ∧ pl ≤ t.length) → J_impl_EndsAt_2 D (fun r H' => IsInts (fun y => H.length ≤ y) H' r (endsOf x t pl) ∧ Ext0 H H') [(26, .bool b), (3, .ptr H.length 0), (1, .str t), (2, .int .i64 pl)] G1 := by
    intro b G1 hE1 b1 b2
    have hEH1 := hEG.trans hE1
    rw [J_impl_EndsAt_2_eq hD]
    refine spl (fun h => ⟨by rw [endsOf_no (b1 h)]; exact IsRow.nil, hEH1⟩) (fun h => ?_)
    obtain ⟨ok, t300, p0, p1⟩ := b2 h
    have hpos := ok.pos
    have hmost := ok.most
    have g1X := hE1.get gX id
    have lH1 := get_lt g1X
    rw [J_impl_EndsAt_1_eq hD, inc (by omega), tn, rep_bools]
    refine ⟨⟨by omega, by omega, by omega, by omega⟩, ⟨by omega, by omega⟩, ?_⟩
    have lg : ∀ (A : AH) (B : Blk), (A ++ [B]).length = A.length + 1 := fun A B => by simp
    refine bst (fun b => decide (b = pl.toNat)) (p := fun _ => false) (by rw [List.getElem?_append_left (by simp)]; exact get_new _ _) (by omega) (fun b _ => by by_cases h : b = 0 + pl.toNat * 1 <;> simp [h] <;> omega) ?_
    rw [lg]
    generalize hK : (G1 ++ [Blk.cells (bV (t.length + 1) fun _ => false) false] ++ [Blk.cells [] false]).set G1.length (.cells (bV (t.length + 1) fun b => decide (b = pl.toNat)) false) = K
    have lK : K.length = G1.length + 2 := by rw [← hK]; simp
    have hEK : Ext0 G1 K := by rw [← hK]; exact ((Ext.app (fun _ => False) _ _).trans (Ext.app _ _ _)).new (Ext.set _ _ _ (.inr (Nat.le_refl _)))
    have kP : K[G1.length]? = some (.cells (bV (t.length + 1) fun b => decide (b = pl.toNat)) false) := by rw [← hK]; exact get_set _ (by simp)
    have kO : K[G1.length + 1]? = some (.cells [] false) := by rw [← hK, List.getElem?_set_ne (by omega), ← lg G1 (Blk.cells (bV (t.length + 1) fun _ => false) false)]; exact get_new _ _
    have kX := hEK.get g1X id
    refine ldSl (cell_of (i := 0) kX rfl) ?_
    rw [lg, lK]
    generalize hN : K ++ [Blk.mp []] ++ [Blk.cells [V.sl xb xi x.length xc, .str t, .map (G1.length + 2)] false] = N
    have lN : N.length = G1.length + 4 := by rw [← hN]; simp [lK]
    have hEN : Ext0 K N := by rw [← hN]; exact (Ext.app _ _ _).trans (Ext.app _ _ _)
    have nM : N[G1.length + 2]? = some (.mp []) := by rw [← hN, List.getElem?_append_left (by simp [lK]), ← lK]; exact get_new _ _
    have nC : N[G1.length + 3]? = some (.cells [V.sl xb xi x.length xc, .str t, .map (G1.length + 2)] false) := by
      have := get_new (K ++ [Blk.mp []]) (.cells [V.sl xb xi x.length xc, .str t, .map (G1.length + 2)] false)
      rw [lg, lK, hN] at this; exact this
    refine ldSl (cell_of (i := 0) (hEN.get kX id) rfl) ((c_last hpos (by omega)).use ?_)
    rintro _ N2 ⟨rfl, hEN2⟩
    refine asIntI ?_
    have hN1 : IsNodes (fun y => y < G1.length) G1 (.sl xb xi x.length xc) x := (nodes_lt (hx0.keep0 hEH1)).lift fun y hy => hy.2
    have hE1N2 : Ext0 G1 N2 := (hEK.trans hEN).trans hEN2
    have hM : IMem (fun y => y < G1.length) (G1.length + 3) (G1.length + 2) (.sl xb xi x.length xc) x t N2 := ⟨hEN2.get nC id, hN1.keep0 hE1N2, [], hEN2.get nM id, fun e he => by simp at he⟩
    have hP : IsBools (notK (G1.length + 2)) N2 (.sl G1.length 0 (t.length + 1) (.ex (t.length + 1))) (bl (t.length + 1) (dB fun b => b = pl.toNat)) :=
      bools_val (bRow (hEN2.get (hEN.get kP id) id) (show G1.length ≠ G1.length + 2 by omega) (by omega)) fun b _ => by simp
    refine (all_iends ok.node hmost t300 (fun y (hy : y < G1.length) => by omega) (by omega) (x.length - 1) (by omega) N2 _ _ hM hP (fun a ha => by omega)).use ?_
    rintro r L ⟨hr, hEL, -⟩
    have hr1 : IsBools (notK (G1.length + 2)) L r (bl (t.length + 1) (dB (En x t (x.length - 1) pl.toNat))) := bools_val hr fun b _ => by
      rw [dB_iff]; exact ⟨fun ⟨a, h1, h2⟩ => by rw [← h1]; exact h2, fun h => ⟨_, rfl, h⟩⟩
    obtain ⟨rb', ri, rc, rfl, -, -, hcell⟩ := bRow_cell hr1
    refine asSlI ?_
    have hEHL : Ext0 H L := (hEH1.trans hE1N2).new (hEL.mono fun y _ hy => .inr (by omega))
    have lO : L[G1.length + 1]? = some (.cells [] false) := hEL.get (hEN2.get (hEN.get kO id) id) (by omega)
    have hO0 : Own H.length 1 L (G1.length + 1) 0 (.ex 0) ([] : List V) := ⟨⟨rfl, by omega⟩, .inr ⟨by omega, lO, .inl rfl⟩⟩
    generalize hpd : dB (En x t (x.length - 1) pl.toNat) = p at hcell
    have hrb : ∀ j, j < t.length + 1 → L.cell rb' (ri + j * 1) = some (.bool (p j)) := hcell
    have hrne : rb' ≠ G1.length + 1 := by
      intro hh
      have := hrb 0 (by omega)
      rw [hh] at this
      obtain ⟨vs, ro, q1, q2⟩ := cell_some this
      rw [lO] at q1
      cases q1
      simp at q2
    refine loopUp (σ := Nat × Nat × Cap) (t.length + 1) (fun k s => [(8, .sl s.1 0 s.2.1 s.2.2), (46, .int .i64 k), (45, .int .i64 (t.length + 1 : Nat)), (44, .sl rb' ri (t.length + 1) rc)]) (fun k s H' => Ext0 H H' ∧ Own H.length 1 H' s.1 s.2.1 s.2.2 ((endsL p k).map vI) ∧ s.1 ≠ rb' ∧ ∀ j, j < t.length + 1 → H'.cell rb' (ri + j * 1) = some (.bool (p j))) (G1.length + 1, 0, .ex 0) rfl
      ⟨hEHL, hO0, fun h => hrne h.symm, hrb⟩ ?_
    rintro k ⟨ob, on, oc⟩ L1 hk ⟨hE2, hO, hne, hr2⟩
    simp only at hO hne ⊢
    have hlen : on = (endsL p k).length := by have := hO.len; simp at this; omega
    have hle := endsL_len p k
    rw [L_impl_EndsAt_4_eq hD]
    refine splD (fun h => ?_) (fun h => ?_)
    · have hkl : k < t.length + 1 := by omega
      rw [J_impl_EndsAt_5_eq hD, tn]
      refine ⟨⟨by omega, by omega⟩, ldBool (hr2 k hkl) (spl (fun hp => cellsNew rfl ?_) (fun hp => ?_))⟩
      · have hO2 : Own H.length 1 (L1 ++ [Blk.cells [V.int .i64 (k : Int)] false]) ob on oc ((endsL p k).map vI) := hO.keep (Ext.app (fun _ => False) _ _) (fun _ => id)
        have hrl := cell_lt (hr2 0 (by omega))
        refine hO2.push (m := 1) rfl (by omega) (by omega) (by omega) (by omega) (by have := hE2.1; simp; omega) fun H' hO' hl he => ?_
        have lg2 : (L1 ++ [Blk.cells [V.int .i64 (k : Int)] false]).length = L1.length + 1 := by simp
        rw [lg2] at hO' hl ⊢
        rw [J_impl_EndsAt_6_eq hD, inc (by omega)]
        refine nxt (_, _, _) hkl rfl ⟨(hE2.trans (Ext.app _ _ _)).new (he.mono fun y _ hy => .inr hy.1), ?_, by simp; omega, fun j hj => he.cell ((Ext.app (fun _ => False) L1 _).cell (hr2 j hj) id) (fun h => hne h.2.1.symm)⟩
        rw [endsV, if_pos hp]
        exact hO'
      · rw [J_impl_EndsAt_6_eq hD, inc (by omega)]
        refine nxt (ob, on, oc) hkl rfl ⟨hE2, ?_, hne, hr2⟩
        rw [endsV, if_neg (by rw [hp]; simp), List.append_nil]
        exact hO
    · rw [J_impl_EndsAt_3_eq hD]
      rw [show k = t.length + 1 by omega] at hO
      refine ⟨?_, hE2⟩
      rw [endsOf_yes ok t300 p0 p1, hpd]
      exact hO.row1
  refine ldSl (cell_of (i := 0) gX rfl) ((c_implRxOk (hx0.keep0 hEG)).use ?_)
  rintro _ G1 ⟨⟨u, rfl, hu⟩, hE1⟩
  refine asBoolI (splNot (fun h => J2 true _ hE1 (fun _ hh => by have := hu.2 hh.1; rw [h] at this; cases this) (fun h => by cases h)) (fun h => splD (fun h2 => J2 true _ hE1 (fun _ hh => by have := hh.2.1; omega) (fun h => by cases h)) (fun h2 => (c_length _ _).use ?_)))
  rintro _ G1 ⟨rfl, rfl⟩
  refine asIntI ((c_within _ _ _ _).use ?_)
  rintro _ G1 ⟨rfl, rfl⟩
  refine asBoolI (J2 _ G1 hE1 (fun h3 hh => by simp at h3; omega) (fun h3 => ?_))
  simp at h3
  exact ⟨hu.1 h, by omega, h3.1, h3.2⟩

end Go.Proofs.YtpjkammmoaeheaaDoor.Aw

/- Contracts: may it be empty; with which bytes it begins; how short it can be. -/
set_option linter.unusedSimpArgs false
set_option linter.unusedVariables false
set_option linter.unusedSectionVars false
set_option maxRecDepth 10000
namespace Go.Proofs.YtpjkammmoaeheaaDoor.Aw
open Go Go.RowKit

/-! ### What the answers tell -/
def NulT (x : List Nd) (i : Nat) (z : Bool) : Prop := ∀ (t : List UInt8) a, a ≤ t.length → En x t i a a → z = true
def FstT (x : List Nd) (i : Nat) (c : Cls) : Prop := COk c ∧ ∀ (t : List UInt8) a b, a ≤ t.length → a < b → En x t i a b → ∃ ch, t[a]? = some ch ∧ mk c ch.toNat = true
def ShoT (x : List Nd) (i : Nat) (n : Int) : Prop := 0 ≤ n ∧ n ≤ 1000000000 ∧ ∀ (t : List UInt8) (a b : Nat), a ≤ t.length → En x t i a b → n ≤ (b : Int) - a

theorem pw_empty {R : Rel} {N : Nat} (hle : ∀ a b, a ≤ N → R a b → a ≤ b ∧ b ≤ N) : ∀ (k : Nat) {a b : Nat}, a ≤ N → pw R k a b → a = b → k ≠ 0 → R a a
  | 0, a, b, _, _, _, h => absurd rfl h
  | k + 1, a, b, ha, ⟨m, h1, h2⟩, e, _ => by
    subst e
    have h3 := pw_le hle k ha h1
    have h4 := hle m a h3.2 h2
    have : m = a := by omega
    subst this; exact h2
theorem pw_first {R : Rel} {N : Nat} (hle : ∀ a b, a ≤ N → R a b → a ≤ b ∧ b ≤ N) : ∀ (k : Nat) {a b : Nat}, a ≤ N → pw R k a b → a < b → ∃ c, a < c ∧ R a c
  | 0, a, b, _, h, hab => by cases h; omega
  | k + 1, a, b, ha, ⟨m, h1, h2⟩, hab => by
    by_cases hm : a < m
    · exact pw_first hle k ha h1 hm
    · have h3 := pw_le hle k ha h1
      have : m = a := by omega
      subst this; exact ⟨b, hab, h2⟩
theorem pw_long {R : Rel} {N : Nat} {s : Int} (hle : ∀ a b, a ≤ N → R a b → a ≤ b ∧ b ≤ N) (hs : ∀ a b : Nat, a ≤ N → R a b → s ≤ (b : Int) - a) : ∀ (k : Nat) {a b : Nat}, a ≤ N → pw R k a b → (k : Int) * s ≤ (b : Int) - a
  | 0, a, b, _, h => by cases h; simp
  | k + 1, a, b, ha, ⟨m, h1, h2⟩ => by
    have h3 := pw_long hle hs k ha h1
    have h4 := hs m b (pw_le hle k ha h1).2 h2
    have : ((k + 1 : Nat) : Int) * s = (k : Int) * s + s := by rw [Int.natCast_succ, Int.add_mul, Int.one_mul]
    omega

section
variable {x : List Nd} (hok : ∀ i n, x[i]? = some n → NodeOk n i) (hxl : x.length ≤ 300)

def NulC (x : List Nd) (i : Nat) : Prop := ∀ (F : Nat → Prop) (H : AH) (v : V), IsNodes F H v x → CallsA prog impl_Rx_nullable [.agg [v], .int .i64 i] H fun r H' => Ext0 H H' ∧ ∃ z, r = .bool z ∧ NulT x i z
def FstC (x : List Nd) (i : Nat) : Prop := ∀ (F : Nat → Prop) (H : AH) (v : V), IsNodes F H v x → CallsA prog impl_Rx_first [.agg [v], .int .i64 i] H fun r H' => Ext0 H H' ∧ ∃ c, IsSpans (fun _ => True) H' r c ∧ FstT x i c
def ShoC (x : List Nd) (i : Nat) : Prop := ∀ (F : Nat → Prop) (H : AH) (v : V), IsNodes F H v x → CallsA prog impl_Rx_shortest [.agg [v], .int .i64 i] H fun r H' => Ext0 H H' ∧ ∃ n, r = .int .i64 n ∧ ShoT x i n

include hok hxl in
theorem nul_of {i : Nat} (hi : i < x.length) (he : ∀ j, j < i → NulC x j) : NulC x i := by
  intro F H v hx
  have hx0 := hx
  obtain ⟨xb, xi, xc, rfl, -⟩ := hx
  obtain ⟨nd, hnd⟩ : ∃ nd, x[i]? = some nd := ⟨_, List.getElem?_eq_getElem hi⟩
  have okn := hok i nd hnd
  have o1 := okn.op1
  have o8 := okn.op8
  refine impl_Rx_nullable_in fun D hD => ?_
  rw [impl_Rx_nullable_eq hD]
  generalize hG : H ++ [Blk.cells [V.sl xb xi x.length xc] false] = G
  have hEG : Ext0 H G := by rw [← hG]; exact Ext.app _ _ _
  have lG : G.length = H.length + 1 := by rw [← hG]; simp
  have gX : G[H.length]? = some (.cells [V.sl xb xi x.length xc] false) := by rw [← hG]; exact get_new _ _
  obtain ⟨sb, si, sc, kb, ki, kc, c0, c1, c2, c3, c4, hset, hkids⟩ := ((hx0.keep0 hEG).at hnd).read
  rw [tn, lG]
  refine ldSl (cell_of (i := 0) gX rfl) ⟨⟨by omega, by omega⟩, ldInt c0 (ldSl c1 (ldSl c2 (ldInt c3 (ldInt c4 (stAll (vs := [V.int .i64 0, .sl 0 0 0 .nil, .sl 0 0 0 .nil, .int .i64 0, .int .i64 0]) (by rw [← lG]; exact get_new _ _) rfl ?_)))))⟩
  generalize hT : (G ++ [Blk.cells [V.int .i64 0, .sl 0 0 0 .nil, .sl 0 0 0 .nil, .int .i64 0, .int .i64 0] false]).set (H.length + 1) (.cells [V.int .i64 nd.op, .sl sb si nd.set.length sc, .sl kb ki nd.kids.length kc, .int .i64 nd.mn, .int .i64 nd.mx] false) = T
  have hET : Ext0 G T := by rw [← hT]; exact (Ext.app (fun _ => False) _ _).new (Ext.set _ _ _ (.inr (by omega)))
  have tN : T[H.length + 1]? = some (.cells [V.int .i64 nd.op, .sl sb si nd.set.length sc, .sl kb ki nd.kids.length kc, .int .i64 nd.mn, .int .i64 nd.mx] false) := by rw [← hT]; exact get_set _ (by simp; omega)
  let S (A : AH) : Prop := Ext0 H A ∧ Ext0 T A
  have hST : S T := ⟨hEG.trans hET, Ext.refl _ _⟩
  have eS : ∀ {A B : AH}, S A → Ext0 A B → S B := fun h hp => ⟨h.1.trans hp, h.2.trans hp⟩
  have nX : ∀ {A : AH}, S A → A.cell H.length 0 = some (V.sl xb xi x.length xc) := fun h => cell_of (i := 0) (h.2.get (hET.get gX id) id) rfl
  have n0 : ∀ {A : AH}, S A → A.cell (H.length + 1) 0 = some (.int .i64 nd.op) := fun h => cell_of (i := 0) (h.2.get tN id) rfl
  have n1 : ∀ {A : AH}, S A → A.cell (H.length + 1) 1 = some (.sl sb si nd.set.length sc) := fun h => cell_of (i := 1) (h.2.get tN id) rfl
  have n2 : ∀ {A : AH}, S A → A.cell (H.length + 1) 2 = some (.sl kb ki nd.kids.length kc) := fun h => cell_of (i := 2) (h.2.get tN id) rfl
  have n3 : ∀ {A : AH}, S A → A.cell (H.length + 1) 3 = some (.int .i64 nd.mn) := fun h => cell_of (i := 3) (h.2.get tN id) rfl
  have hkT := hkids.keep0 hET
  have kk : ∀ {A : AH}, S A → ∀ {m z}, nd.kids[m]? = some z → A.cell kb (ki + m * 1) = some (.int .i64 z) := fun h => fun hz => IsInts.at (hkT.keep0 h.2) hz
  have kidle : ∀ {t : List UInt8} {z : Int}, z ∈ nd.kids → ∀ a b, a ≤ t.length → En x t z.toNat a b → a ≤ b ∧ b ≤ t.length := fun {t z} hz => by
    have h := okn.kid z hz
    exact En_le hok z.toNat (by omega)
  have kidN : ∀ {z : Int} {A : AH}, z ∈ nd.kids → S A → CallsA prog impl_Rx_nullable [.agg [V.sl xb xi x.length xc], .int .i64 z] A fun r H' => Ext0 A H' ∧ ∃ y, r = .bool y ∧ NulT x z.toNat y := fun {z A} hz hS => by
    have h := okn.kid z hz
    have e : z = ((z.toNat : Nat) : Int) := by omega
    have := he z.toNat (by omega) F A _ (hx0.keep0 hS.1)
    rwa [← e] at this
  have J1 : ∀ {A : AH}, S A → (nd.op = 6 ∨ nd.op = 8) → J_impl_Rx_nullable_1 D (fun r H' => Ext0 H H' ∧ ∃ z, r = .bool z ∧ NulT x i z) [(2, .ptr H.length 0), (5, .ptr (H.length + 1) 0)] A := by
    intro A hS ho
    obtain ⟨z, hz⟩ := kids1 okn (by omega)
    have k0 : ∀ {A : AH}, S A → A.cell kb ki = some (.int .i64 z) := fun h => by have := kk h (m := 0) (z := z) (by rw [hz]; rfl); rwa [Nat.zero_mul, Nat.add_zero] at this
    have hkl : nd.kids.length = 1 := by rw [hz]; rfl
    have hzm : z ∈ nd.kids := by rw [hz]; simp
    have hle := fun {t : List UInt8} => kidle (t := t) hzm
    rw [J_impl_Rx_nullable_1_eq hD]
    refine ldInt (n0 hS) (splE (fun h8 => ?_) (fun h8 => ?_))
    · refine ldInt (n3 hS) (splE (fun hm => ?_) (fun hm => ?_))
      · rw [J_impl_Rx_nullable_5_eq hD]
        exact ⟨hS.1, true, rfl, fun _ _ _ _ => rfl⟩
      · refine ldSl (nX hS) (ldSl (n2 hS) ⟨⟨by omega, by omega⟩, ldInt (k0 hS) ((kidN hzm hS).use ?_)⟩)
        rintro _ B ⟨hE, y, rfl, hy⟩
        refine asBoolI ?_
        rw [J_impl_Rx_nullable_5_eq hD]
        refine ⟨hS.1.trans hE, y, rfl, fun t a ha h => ?_⟩
        obtain ⟨k, q1, q2, q3⟩ := (En8 hok hnd h8 hz).1 h
        have := (okn.times h8).1
        exact hy t a ha (pw_empty hle k ha q3 rfl (by omega))
    · have h6 : nd.op = 6 := by omega
      refine ldSl (nX hS) (ldSl (n2 hS) ⟨⟨by omega, by omega⟩, ldInt (k0 hS) ((kidN hzm hS).use ?_)⟩)
      rintro _ B ⟨hE, y, rfl, hy⟩
      refine asBoolI ?_
      rw [J_impl_Rx_nullable_5_eq hD]
      refine ⟨hS.1.trans hE, y, rfl, fun t a ha h => ?_⟩
      obtain ⟨k, q3⟩ := (En6 hok hnd h6 hz).1 h
      exact hy t a ha (pw_empty hle (k + 1) ha q3 rfl (by omega))
  have J2 : ∀ b : Bool, (b = false → nd.op ≠ 1 ∧ nd.op ≠ 5 ∧ nd.op ≠ 7) → J_impl_Rx_nullable_2 D (fun r H' => Ext0 H H' ∧ ∃ z, r = .bool z ∧ NulT x i z) [(13, .bool b), (12, .int .i64 nd.op), (2, .ptr H.length 0), (5, .ptr (H.length + 1) 0)] T := by
    intro b hb
    rw [J_impl_Rx_nullable_2_eq hD]
    refine spl (fun _ => ⟨hST.1, true, rfl, fun _ _ _ _ => rfl⟩) (fun hbf => splE (fun h2 => ⟨hST.1, false, rfl, fun t a _ h => ?_⟩) (fun h2 => splE (fun h3 => ?_) (fun h3 => splE (fun h4 => ?_) (fun h4 => J1 hST (by have := hb hbf; omega)))))
    · obtain ⟨c, _, _, h⟩ := (En2 hok hnd h2).1 h; omega
    · -- one behind the other
      obtain ⟨y, z, hyz⟩ := kids2 okn (.inl h3)
      have k0 : ∀ {A : AH}, S A → A.cell kb ki = some (.int .i64 y) := fun h => by have := kk h (m := 0) (z := y) (by rw [hyz]; rfl); rwa [Nat.zero_mul, Nat.add_zero] at this
      have k1 : ∀ {A : AH}, S A → A.cell kb (ki + 1) = some (.int .i64 z) := fun h => by have := kk h (m := 1) (z := z) (by rw [hyz]; rfl); rwa [Nat.one_mul] at this
      have hkl : nd.kids.length = 2 := by rw [hyz]; rfl
      have hym : y ∈ nd.kids := by rw [hyz]; simp
      have hzm : z ∈ nd.kids := by rw [hyz]; simp
      refine ldSl (nX hST) (ldSl (n2 hST) ⟨⟨by omega, by omega⟩, ldInt (k0 hST) ((kidN hym hST).use ?_)⟩)
      rintro _ B ⟨hE, y1, rfl, hy1⟩
      have hSB := eS hST hE
      have key : ∀ t a, a ≤ t.length → En x t i a a → En x t y.toNat a a ∧ En x t z.toNat a a := fun t a ha h => by
        obtain ⟨m, q1, q2⟩ := (En3 hok hnd h3 hyz).1 h
        have q3 := kidle hym a m ha q1
        have q4 := kidle hzm m a q3.2 q2
        have : m = a := by omega
        subst this; exact ⟨q1, q2⟩
      refine asBoolI (spl (fun h => ?_) (fun h => ?_))
      · refine ldSl (nX hSB) (ldSl (n2 hSB) ⟨⟨by omega, by omega⟩, ldInt (k1 hSB) ((kidN hzm hSB).use ?_)⟩)
        rintro _ C ⟨hE2, y2, rfl, hy2⟩
        refine asBoolI ?_
        rw [J_impl_Rx_nullable_3_eq hD]
        exact ⟨hSB.1.trans hE2, y2, rfl, fun t a ha h => hy2 t a ha (key t a ha h).2⟩
      · rw [J_impl_Rx_nullable_3_eq hD]
        exact ⟨hSB.1, false, rfl, fun t a ha hh => by rw [← h]; exact hy1 t a ha (key t a ha hh).1⟩
    · -- one of two
      obtain ⟨y, z, hyz⟩ := kids2 okn (.inr h4)
      have k0 : ∀ {A : AH}, S A → A.cell kb ki = some (.int .i64 y) := fun h => by have := kk h (m := 0) (z := y) (by rw [hyz]; rfl); rwa [Nat.zero_mul, Nat.add_zero] at this
      have k1 : ∀ {A : AH}, S A → A.cell kb (ki + 1) = some (.int .i64 z) := fun h => by have := kk h (m := 1) (z := z) (by rw [hyz]; rfl); rwa [Nat.one_mul] at this
      have hkl : nd.kids.length = 2 := by rw [hyz]; rfl
      have hym : y ∈ nd.kids := by rw [hyz]; simp
      have hzm : z ∈ nd.kids := by rw [hyz]; simp
      refine ldSl (nX hST) (ldSl (n2 hST) ⟨⟨by omega, by omega⟩, ldInt (k0 hST) ((kidN hym hST).use ?_)⟩)
      rintro _ B ⟨hE, y1, rfl, hy1⟩
      have hSB := eS hST hE
      refine asBoolI (spl (fun h => ?_) (fun h => ?_))
      · rw [J_impl_Rx_nullable_4_eq hD]
        exact ⟨hSB.1, true, rfl, fun _ _ _ _ => rfl⟩
      · refine ldSl (nX hSB) (ldSl (n2 hSB) ⟨⟨by omega, by omega⟩, ldInt (k1 hSB) ((kidN hzm hSB).use ?_)⟩)
        rintro _ C ⟨hE2, y2, rfl, hy2⟩
        refine asBoolI ?_
        rw [J_impl_Rx_nullable_4_eq hD]
        refine ⟨hSB.1.trans hE2, y2, rfl, fun t a ha hh => ?_⟩
        rcases (En4 hok hnd h4 hyz).1 hh with q | q
        · have := hy1 t a ha q; rw [h] at this; cases this
        · exact hy2 t a ha q
  refine ldInt (n0 hST) (splE (fun h => J2 _ fun hb => by simp at hb; omega) (fun h => splE (fun h => J2 _ fun hb => by simp at hb; omega) (fun h => J2 _ fun hb => by simp at hb; omega)))

include hok hxl in
theorem all_nul : ∀ (i : Nat), i < x.length → NulC x i := by
  intro i
  induction i using Nat.strongRecOn with
  | _ i ih => intro hi; exact nul_of hok hxl hi fun j hj => ih j hj (by omega)

include hok hxl in
theorem fst_of (hnul : ∀ j, j < x.length → NulC x j) {i : Nat} (hi : i < x.length) (he : ∀ j, j < i → FstC x j) : FstC x i := by
  intro F H v hx
  have hx0 := hx
  obtain ⟨xb, xi, xc, rfl, -⟩ := hx
  obtain ⟨nd, hnd⟩ : ∃ nd, x[i]? = some nd := ⟨_, List.getElem?_eq_getElem hi⟩
  have okn := hok i nd hnd
  have o1 := okn.op1
  have o8 := okn.op8
  refine impl_Rx_first_in fun D hD => ?_
  rw [impl_Rx_first_eq hD]
  generalize hG : H ++ [Blk.cells [V.sl xb xi x.length xc] false] = G
  have hEG : Ext0 H G := by rw [← hG]; exact Ext.app _ _ _
  have lG : G.length = H.length + 1 := by rw [← hG]; simp
  have gX : G[H.length]? = some (.cells [V.sl xb xi x.length xc] false) := by rw [← hG]; exact get_new _ _
  obtain ⟨sb, si, sc, kb, ki, kc, c0, c1, c2, c3, c4, hset, hkids⟩ := ((hx0.keep0 hEG).at hnd).read
  rw [tn, lG]
  refine ldSl (cell_of (i := 0) gX rfl) ⟨⟨by omega, by omega⟩, ldInt c0 (ldSl c1 (ldSl c2 (ldInt c3 (ldInt c4 (stAll (vs := [V.int .i64 0, .sl 0 0 0 .nil, .sl 0 0 0 .nil, .int .i64 0, .int .i64 0]) (by rw [← lG]; exact get_new _ _) rfl ?_)))))⟩
  generalize hT : (G ++ [Blk.cells [V.int .i64 0, .sl 0 0 0 .nil, .sl 0 0 0 .nil, .int .i64 0, .int .i64 0] false]).set (H.length + 1) (.cells [V.int .i64 nd.op, .sl sb si nd.set.length sc, .sl kb ki nd.kids.length kc, .int .i64 nd.mn, .int .i64 nd.mx] false) = T
  have hET : Ext0 G T := by rw [← hT]; exact (Ext.app (fun _ => False) _ _).new (Ext.set _ _ _ (.inr (by omega)))
  have tN : T[H.length + 1]? = some (.cells [V.int .i64 nd.op, .sl sb si nd.set.length sc, .sl kb ki nd.kids.length kc, .int .i64 nd.mn, .int .i64 nd.mx] false) := by rw [← hT]; exact get_set _ (by simp; omega)
  let S (A : AH) : Prop := Ext0 H A ∧ Ext0 T A
  have hST : S T := ⟨hEG.trans hET, Ext.refl _ _⟩
  have eS : ∀ {A B : AH}, S A → Ext0 A B → S B := fun h hp => ⟨h.1.trans hp, h.2.trans hp⟩
  have nX : ∀ {A : AH}, S A → A.cell H.length 0 = some (V.sl xb xi x.length xc) := fun h => cell_of (i := 0) (h.2.get (hET.get gX id) id) rfl
  have n0 : ∀ {A : AH}, S A → A.cell (H.length + 1) 0 = some (.int .i64 nd.op) := fun h => cell_of (i := 0) (h.2.get tN id) rfl
  have n1 : ∀ {A : AH}, S A → A.cell (H.length + 1) 1 = some (.sl sb si nd.set.length sc) := fun h => cell_of (i := 1) (h.2.get tN id) rfl
  have n2 : ∀ {A : AH}, S A → A.cell (H.length + 1) 2 = some (.sl kb ki nd.kids.length kc) := fun h => cell_of (i := 2) (h.2.get tN id) rfl
  have n3 : ∀ {A : AH}, S A → A.cell (H.length + 1) 3 = some (.int .i64 nd.mn) := fun h => cell_of (i := 3) (h.2.get tN id) rfl
  have hkT := hkids.keep0 hET
  have kk : ∀ {A : AH}, S A → ∀ {m z}, nd.kids[m]? = some z → A.cell kb (ki + m * 1) = some (.int .i64 z) := fun h => fun hz => IsInts.at (hkT.keep0 h.2) hz
  have kidle : ∀ {t : List UInt8} {z : Int}, z ∈ nd.kids → ∀ a b, a ≤ t.length → En x t z.toNat a b → a ≤ b ∧ b ≤ t.length := fun {t z} hz => by
    have h := okn.kid z hz
    exact En_le hok z.toNat (by omega)
  have kidN : ∀ {z : Int} {A : AH}, z ∈ nd.kids → S A → CallsA prog impl_Rx_nullable [.agg [V.sl xb xi x.length xc], .int .i64 z] A fun r H' => Ext0 A H' ∧ ∃ y, r = .bool y ∧ NulT x z.toNat y := fun {z A} hz hS => by
    have h := okn.kid z hz
    have e : z = ((z.toNat : Nat) : Int) := by omega
    have := hnul z.toNat (by omega) F A _ (hx0.keep0 hS.1)
    rwa [← e] at this
  have kidF : ∀ {z : Int} {A : AH}, z ∈ nd.kids → S A → CallsA prog impl_Rx_first [.agg [V.sl xb xi x.length xc], .int .i64 z] A fun r H' => Ext0 A H' ∧ ∃ c, IsSpans (fun _ => True) H' r c ∧ FstT x z.toNat c := fun {z A} hz hS => by
    have h := okn.kid z hz
    have e : z = ((z.toNat : Nat) : Int) := by omega
    have := he z.toNat (by omega) F A _ (hx0.keep0 hS.1)
    rwa [← e] at this
  have J1 : ∀ {A : AH}, S A → 5 ≤ nd.op → J_impl_Rx_first_1 D (fun r H' => Ext0 H H' ∧ ∃ c, IsSpans (fun _ => True) H' r c ∧ FstT x i c) [(2, .ptr H.length 0), (5, .ptr (H.length + 1) 0)] A := by
    intro A hS ho
    obtain ⟨z, hz⟩ := kids1 okn (by omega)
    have k0 : ∀ {A : AH}, S A → A.cell kb ki = some (.int .i64 z) := fun h => by have := kk h (m := 0) (z := z) (by rw [hz]; rfl); rwa [Nat.zero_mul, Nat.add_zero] at this
    have hkl : nd.kids.length = 1 := by rw [hz]; rfl
    have hzm : z ∈ nd.kids := by rw [hz]; simp
    have hle := fun {t : List UInt8} => kidle (t := t) hzm
    rw [J_impl_Rx_first_1_eq hD]
    refine ldSl (nX hS) (ldSl (n2 hS) ⟨⟨by omega, by omega⟩, ldInt (k0 hS) ((kidF hzm hS).use ?_)⟩)
    rintro r B ⟨hE, c, hc, hcT⟩
    have hc0 := hc
    obtain ⟨_, _, _, rfl, -⟩ := hc
    refine asSlI ⟨hS.1.trans hE, c, hc0, hcT.1, fun t a b ha hab h => ?_⟩
    have hp : ∃ k, pw (En x t z.toNat) k a b := by
      rcases (show nd.op = 5 ∨ nd.op = 6 ∨ nd.op = 7 ∨ nd.op = 8 by omega) with q | q | q | q
      · exact (En5 hok hnd q hz).1 h
      · obtain ⟨k, h⟩ := (En6 hok hnd q hz).1 h; exact ⟨_, h⟩
      · rcases (En7 hok hnd q hz).1 h with h | h
        · omega
        · exact ⟨1, pw_one.2 h⟩
      · obtain ⟨k, _, _, h⟩ := (En8 hok hnd q hz).1 h; exact ⟨_, h⟩
    obtain ⟨k, hp⟩ := hp
    obtain ⟨d, h1, h2⟩ := pw_first hle k ha hp hab
    exact hcT.2 t a d ha h1 h2
  have both : ∀ {A B : AH} {r : V} {c d : Cls}, S A → COk c → COk d → NewCls A (cls fun k => mk c k || mk d k) r B → (∀ (t : List UInt8) a b, a ≤ t.length → a < b → En x t i a b → (∃ ch, t[a]? = some ch ∧ mk c ch.toNat = true) ∨ ∃ ch, t[a]? = some ch ∧ mk d ch.toNat = true) → Ext0 H B ∧ ∃ c, IsSpans (fun _ => True) B r c ∧ FstT x i c := fun {A B r c d} hS h1 h2 hn hT =>
    ⟨hS.1.trans hn.ext, _, hn.spans.mono fun _ _ => trivial, cls_ok _, fun t a b ha hab h => by
      rcases hT t a b ha hab h with ⟨ch, q1, q2⟩ | ⟨ch, q1, q2⟩
      · exact ⟨ch, q1, by rw [mk_cls _ ch.toNat_lt, q2, Bool.true_or]⟩
      · exact ⟨ch, q1, by rw [mk_cls _ ch.toNat_lt, q2, Bool.or_true]⟩⟩
  refine ldInt (n0 hST) (splE (fun h1 => ⟨hST.1, [], IsRow.nil, (fun i s h => by simp at h), fun t a b _ hab h => ?_⟩) (fun h1 => splE (fun h2 => ldSl (n1 hST) ⟨hST.1, nd.set, (hset.keep0 hET).mono fun _ _ => trivial, (okn.set h2).1, fun t a b _ hab h => ?_⟩) (fun h2 => splE (fun h3 => ?_) (fun h3 => splE (fun h4 => ?_) (fun h4 => J1 hST (by omega))))))
  · have := (En1 hok hnd h1).1 h; omega
  · obtain ⟨c, q1, q2, _⟩ := (En2 hok hnd h2).1 h; exact ⟨c, q1, q2⟩
  · -- one behind the other
    obtain ⟨y, z, hyz⟩ := kids2 okn (.inl h3)
    have k0 : ∀ {A : AH}, S A → A.cell kb ki = some (.int .i64 y) := fun h => by have := kk h (m := 0) (z := y) (by rw [hyz]; rfl); rwa [Nat.zero_mul, Nat.add_zero] at this
    have k1 : ∀ {A : AH}, S A → A.cell kb (ki + 1) = some (.int .i64 z) := fun h => by have := kk h (m := 1) (z := z) (by rw [hyz]; rfl); rwa [Nat.one_mul] at this
    have hkl : nd.kids.length = 2 := by rw [hyz]; rfl
    have hym : y ∈ nd.kids := by rw [hyz]; simp
    have hzm : z ∈ nd.kids := by rw [hyz]; simp
    refine ldSl (nX hST) (ldSl (n2 hST) ⟨⟨by omega, by omega⟩, ldInt (k0 hST) ((kidN hym hST).use ?_)⟩)
    rintro _ B ⟨hE, y1, rfl, hy1⟩
    have hSB := eS hST hE
    refine asBoolI (splNot (fun h => ?_) (fun h => ?_))
    · refine ldSl (nX hSB) (ldSl (n2 hSB) ⟨⟨by omega, by omega⟩, ldInt (k0 hSB) ((kidF hym hSB).use ?_)⟩)
      rintro r C ⟨hE2, c, hc, hcT⟩
      have hc0 := hc
      obtain ⟨_, _, _, rfl, -⟩ := hc
      refine asSlI ⟨hSB.1.trans hE2, c, hc0, hcT.1, fun t a b ha hab hh => ?_⟩
      obtain ⟨m, q1, q2⟩ := (En3 hok hnd h3 hyz).1 hh
      have q3 := kidle hym a m ha q1
      by_cases hm : a < m
      · exact hcT.2 t a m ha hm q1
      · have : m = a := by omega
        subst this
        have := hy1 t m ha q1
        rw [h] at this; cases this
    · rw [J_impl_Rx_first_2_eq hD]
      refine ldSl (nX hSB) (ldSl (n2 hSB) ⟨⟨by omega, by omega⟩, ldInt (k0 hSB) (ldSl (nX hSB) (ldSl (n2 hSB) ⟨⟨by omega, by omega⟩, ldInt (k1 hSB) ((kidF hym hSB).use ?_)⟩))⟩)
      rintro r C ⟨hE2, c, hc, hcT⟩
      have hSC := eS hSB hE2
      have hc0 := hc
      obtain ⟨_, _, _, rfl, -⟩ := hc
      refine asSlI ⟨k1 hSC, n2 hSC, ⟨nX hSC, trivial⟩, (kidF hzm hSC).use ?_⟩
      rintro r2 C2 ⟨hE3, d, hd, hdT⟩
      have hd0 := hd
      obtain ⟨_, _, _, rfl, -⟩ := hd
      refine asSlI ((c_Joined (hc0.keep0 hE3) hd0).use ?_)
      rintro r3 C3 ⟨hn, -⟩
      have hn := hn ⟨hcT.1, hdT.1⟩
      have hn0 := hn
      obtain ⟨_, _, _, rfl, -⟩ := hn
      refine asSlI (both (eS hSC hE3) hcT.1 hdT.1 hn0 fun t a b ha hab hh => ?_)
      obtain ⟨m, q1, q2⟩ := (En3 hok hnd h3 hyz).1 hh
      have q3 := kidle hym a m ha q1
      by_cases hm : a < m
      · exact .inl (hcT.2 t a m ha hm q1)
      · have : m = a := by omega
        subst this
        exact .inr (hdT.2 t m b ha hab q2)
  · -- one of two
    obtain ⟨y, z, hyz⟩ := kids2 okn (.inr h4)
    have k0 : ∀ {A : AH}, S A → A.cell kb ki = some (.int .i64 y) := fun h => by have := kk h (m := 0) (z := y) (by rw [hyz]; rfl); rwa [Nat.zero_mul, Nat.add_zero] at this
    have k1 : ∀ {A : AH}, S A → A.cell kb (ki + 1) = some (.int .i64 z) := fun h => by have := kk h (m := 1) (z := z) (by rw [hyz]; rfl); rwa [Nat.one_mul] at this
    have hkl : nd.kids.length = 2 := by rw [hyz]; rfl
    have hym : y ∈ nd.kids := by rw [hyz]; simp
    have hzm : z ∈ nd.kids := by rw [hyz]; simp
    refine ldSl (nX hST) (ldSl (n2 hST) ⟨⟨by omega, by omega⟩, ldInt (k0 hST) (ldSl (nX hST) (ldSl (n2 hST) ⟨⟨by omega, by omega⟩, ldInt (k1 hST) ((kidF hym hST).use ?_)⟩))⟩)
    rintro r C ⟨hE2, c, hc, hcT⟩
    have hSC := eS hST hE2
    have hc0 := hc
    obtain ⟨_, _, _, rfl, -⟩ := hc
    refine asSlI ⟨k1 hSC, n2 hSC, ⟨nX hSC, trivial⟩, (kidF hzm hSC).use ?_⟩
    rintro r2 C2 ⟨hE3, d, hd, hdT⟩
    have hd0 := hd
    obtain ⟨_, _, _, rfl, -⟩ := hd
    refine asSlI ((c_Joined (hc0.keep0 hE3) hd0).use ?_)
    rintro r3 C3 ⟨hn, -⟩
    have hn := hn ⟨hcT.1, hdT.1⟩
    have hn0 := hn
    obtain ⟨_, _, _, rfl, -⟩ := hn
    refine asSlI (both (eS hSC hE3) hcT.1 hdT.1 hn0 fun t a b ha hab hh => ?_)
    exact ((En4 hok hnd h4 hyz).1 hh).imp (hcT.2 t a b ha hab) (hdT.2 t a b ha hab)

include hok hxl in
theorem all_fst : ∀ (i : Nat), i < x.length → FstC x i := by
  intro i
  induction i using Nat.strongRecOn with
  | _ i ih => intro hi; exact fst_of hok hxl (all_nul hok hxl) hi fun j hj => ih j hj (by omega)

theorem min_le (a : Int) : (if a < 1000000000 then a else 1000000000) ≤ a := by split <;> omega
theorem min_le9 (a : Int) : (if a < 1000000000 then a else 1000000000) ≤ 1000000000 := by split <;> omega
theorem min_pos {a : Int} (h : 0 ≤ a) : 0 ≤ (if a < 1000000000 then a else 1000000000) := by split <;> omega

include hok hxl in
theorem sho_of {i : Nat} (hi : i < x.length) (he : ∀ j, j < i → ShoC x j) : ShoC x i := by
  intro F H v hx
  have hx0 := hx
  obtain ⟨xb, xi, xc, rfl, -⟩ := hx
  obtain ⟨nd, hnd⟩ : ∃ nd, x[i]? = some nd := ⟨_, List.getElem?_eq_getElem hi⟩
  have okn := hok i nd hnd
  have o1 := okn.op1
  have o8 := okn.op8
  refine impl_Rx_shortest_in fun D hD => ?_
  rw [impl_Rx_shortest_eq hD]
  generalize hG : H ++ [Blk.cells [V.sl xb xi x.length xc] false] = G
  have hEG : Ext0 H G := by rw [← hG]; exact Ext.app _ _ _
  have lG : G.length = H.length + 1 := by rw [← hG]; simp
  have gX : G[H.length]? = some (.cells [V.sl xb xi x.length xc] false) := by rw [← hG]; exact get_new _ _
  obtain ⟨sb, si, sc, kb, ki, kc, c0, c1, c2, c3, c4, hset, hkids⟩ := ((hx0.keep0 hEG).at hnd).read
  rw [tn, lG]
  refine ldSl (cell_of (i := 0) gX rfl) ⟨⟨by omega, by omega⟩, ldInt c0 (ldSl c1 (ldSl c2 (ldInt c3 (ldInt c4 (stAll (vs := [V.int .i64 0, .sl 0 0 0 .nil, .sl 0 0 0 .nil, .int .i64 0, .int .i64 0]) (by rw [← lG]; exact get_new _ _) rfl ?_)))))⟩
  generalize hT : (G ++ [Blk.cells [V.int .i64 0, .sl 0 0 0 .nil, .sl 0 0 0 .nil, .int .i64 0, .int .i64 0] false]).set (H.length + 1) (.cells [V.int .i64 nd.op, .sl sb si nd.set.length sc, .sl kb ki nd.kids.length kc, .int .i64 nd.mn, .int .i64 nd.mx] false) = T
  have hET : Ext0 G T := by rw [← hT]; exact (Ext.app (fun _ => False) _ _).new (Ext.set _ _ _ (.inr (by omega)))
  have tN : T[H.length + 1]? = some (.cells [V.int .i64 nd.op, .sl sb si nd.set.length sc, .sl kb ki nd.kids.length kc, .int .i64 nd.mn, .int .i64 nd.mx] false) := by rw [← hT]; exact get_set _ (by simp; omega)
  let S (A : AH) : Prop := Ext0 H A ∧ Ext0 T A
  have hST : S T := ⟨hEG.trans hET, Ext.refl _ _⟩
  have eS : ∀ {A B : AH}, S A → Ext0 A B → S B := fun h hp => ⟨h.1.trans hp, h.2.trans hp⟩
  have nX : ∀ {A : AH}, S A → A.cell H.length 0 = some (V.sl xb xi x.length xc) := fun h => cell_of (i := 0) (h.2.get (hET.get gX id) id) rfl
  have n0 : ∀ {A : AH}, S A → A.cell (H.length + 1) 0 = some (.int .i64 nd.op) := fun h => cell_of (i := 0) (h.2.get tN id) rfl
  have n1 : ∀ {A : AH}, S A → A.cell (H.length + 1) 1 = some (.sl sb si nd.set.length sc) := fun h => cell_of (i := 1) (h.2.get tN id) rfl
  have n2 : ∀ {A : AH}, S A → A.cell (H.length + 1) 2 = some (.sl kb ki nd.kids.length kc) := fun h => cell_of (i := 2) (h.2.get tN id) rfl
  have n3 : ∀ {A : AH}, S A → A.cell (H.length + 1) 3 = some (.int .i64 nd.mn) := fun h => cell_of (i := 3) (h.2.get tN id) rfl
  have hkT := hkids.keep0 hET
  have kk : ∀ {A : AH}, S A → ∀ {m z}, nd.kids[m]? = some z → A.cell kb (ki + m * 1) = some (.int .i64 z) := fun h => fun hz => IsInts.at (hkT.keep0 h.2) hz
  have kidle : ∀ {t : List UInt8} {z : Int}, z ∈ nd.kids → ∀ a b, a ≤ t.length → En x t z.toNat a b → a ≤ b ∧ b ≤ t.length := fun {t z} hz => by
    have h := okn.kid z hz
    exact En_le hok z.toNat (by omega)
  have kidS : ∀ {z : Int} {A : AH}, z ∈ nd.kids → S A → CallsA prog impl_Rx_shortest [.agg [V.sl xb xi x.length xc], .int .i64 z] A fun r H' => Ext0 A H' ∧ ∃ n, r = .int .i64 n ∧ ShoT x z.toNat n := fun {z A} hz hS => by
    have h := okn.kid z hz
    have e : z = ((z.toNat : Nat) : Int) := by omega
    have := he z.toNat (by omega) F A _ (hx0.keep0 hS.1)
    rwa [← e] at this
  refine ldInt (n0 hST) (splE (fun h2 => ⟨hST.1, 1, rfl, by omega, by omega, fun t a b _ h => ?_⟩) (fun h2 => splE (fun h3 => ?_) (fun h3 => splE (fun h4 => ?_) (fun h4 => splE (fun h6 => ?_) (fun h6 => splE (fun h8 => ?_) (fun h8 => ?_))))))
  · obtain ⟨c, _, _, h⟩ := (En2 hok hnd h2).1 h; omega
  · -- one behind the other
    obtain ⟨y, z, hyz⟩ := kids2 okn (.inl h3)
    have k0 : ∀ {A : AH}, S A → A.cell kb ki = some (.int .i64 y) := fun h => by have := kk h (m := 0) (z := y) (by rw [hyz]; rfl); rwa [Nat.zero_mul, Nat.add_zero] at this
    have k1 : ∀ {A : AH}, S A → A.cell kb (ki + 1) = some (.int .i64 z) := fun h => by have := kk h (m := 1) (z := z) (by rw [hyz]; rfl); rwa [Nat.one_mul] at this
    have hkl : nd.kids.length = 2 := by rw [hyz]; rfl
    have hym : y ∈ nd.kids := by rw [hyz]; simp
    have hzm : z ∈ nd.kids := by rw [hyz]; simp
    refine ldSl (nX hST) (ldSl (n2 hST) ⟨⟨by omega, by omega⟩, ldInt (k0 hST) (ldSl (nX hST) (ldSl (n2 hST) ⟨⟨by omega, by omega⟩, ldInt (k1 hST) ((kidS hym hST).use ?_)⟩))⟩)
    rintro _ C ⟨hE2, c, rfl, c1, c2, c3⟩
    have hSC := eS hST hE2
    refine asIntI ⟨k1 hSC, n2 hSC, ⟨nX hSC, trivial⟩, (kidS hzm hSC).use ?_⟩
    rintro _ C2 ⟨hE3, d, rfl, d1, d2, d3⟩
    refine asIntI ?_
    rw [w64 (by omega) (by omega)]
    refine ⟨(eS hSC hE3).1, _, rfl, min_pos (by omega), min_le9 _, fun t a b ha h => ?_⟩
    obtain ⟨m, q1, q2⟩ := (En3 hok hnd h3 hyz).1 h
    have q3 := kidle hym a m ha q1
    have q4 := c3 t a m ha q1
    have q5 := d3 t m b q3.2 q2
    have := min_le (c + d)
    omega
  · -- one of two
    obtain ⟨y, z, hyz⟩ := kids2 okn (.inr h4)
    have k0 : ∀ {A : AH}, S A → A.cell kb ki = some (.int .i64 y) := fun h => by have := kk h (m := 0) (z := y) (by rw [hyz]; rfl); rwa [Nat.zero_mul, Nat.add_zero] at this
    have k1 : ∀ {A : AH}, S A → A.cell kb (ki + 1) = some (.int .i64 z) := fun h => by have := kk h (m := 1) (z := z) (by rw [hyz]; rfl); rwa [Nat.one_mul] at this
    have hkl : nd.kids.length = 2 := by rw [hyz]; rfl
    have hym : y ∈ nd.kids := by rw [hyz]; simp
    have hzm : z ∈ nd.kids := by rw [hyz]; simp
    refine ldSl (nX hST) (ldSl (n2 hST) ⟨⟨by omega, by omega⟩, ldInt (k0 hST) (ldSl (nX hST) (ldSl (n2 hST) ⟨⟨by omega, by omega⟩, ldInt (k1 hST) ((kidS hym hST).use ?_)⟩))⟩)
    rintro _ C ⟨hE2, c, rfl, c1, c2, c3⟩
    have hSC := eS hST hE2
    refine asIntI ⟨k1 hSC, n2 hSC, ⟨nX hSC, trivial⟩, (kidS hzm hSC).use ?_⟩
    rintro _ C2 ⟨hE3, d, rfl, d1, d2, d3⟩
    refine asIntI ⟨(eS hSC hE3).1, _, rfl, by split <;> omega, by split <;> omega, fun t a b ha h => ?_⟩
    rcases (En4 hok hnd h4 hyz).1 h with q | q
    · have := c3 t a b ha q; split <;> omega
    · have := d3 t a b ha q; split <;> omega
  · -- once or more
    obtain ⟨z, hz⟩ := kids1 okn (by omega)
    have k0 : ∀ {A : AH}, S A → A.cell kb ki = some (.int .i64 z) := fun h => by have := kk h (m := 0) (z := z) (by rw [hz]; rfl); rwa [Nat.zero_mul, Nat.add_zero] at this
    have hkl : nd.kids.length = 1 := by rw [hz]; rfl
    have hzm : z ∈ nd.kids := by rw [hz]; simp
    have hle := fun {t : List UInt8} => kidle (t := t) hzm
    refine ldSl (nX hST) (ldSl (n2 hST) ⟨⟨by omega, by omega⟩, ldInt (k0 hST) ((kidS hzm hST).use ?_)⟩)
    rintro _ C ⟨hE2, c, rfl, c1, c2, c3⟩
    refine asIntI ⟨(eS hST hE2).1, _, rfl, c1, c2, fun t a b ha h => ?_⟩
    obtain ⟨k, q⟩ := (En6 hok hnd h6 hz).1 h
    have h1 := pw_long hle (c3 t) (k + 1) ha q
    have h2 : c ≤ ((k + 1 : Nat) : Int) * c := by
      have : 0 ≤ (k : Int) * c := Int.mul_nonneg (by omega) c1
      rw [Int.natCast_succ, Int.add_mul, Int.one_mul]; omega
    omega
  · -- between two counts
    obtain ⟨z, hz⟩ := kids1 okn (by omega)
    have k0 : ∀ {A : AH}, S A → A.cell kb ki = some (.int .i64 z) := fun h => by have := kk h (m := 0) (z := z) (by rw [hz]; rfl); rwa [Nat.zero_mul, Nat.add_zero] at this
    have hkl : nd.kids.length = 1 := by rw [hz]; rfl
    have hzm : z ∈ nd.kids := by rw [hz]; simp
    have hle := fun {t : List UInt8} => kidle (t := t) hzm
    obtain ⟨m0, m30, hmx⟩ := okn.times h8
    refine ldInt (n3 hST) (ldSl (nX hST) (ldSl (n2 hST) ⟨⟨by omega, by omega⟩, ldInt (k0 hST) ((kidS hzm hST).use ?_)⟩))
    rintro _ C ⟨hE2, c, rfl, c1, c2, c3⟩
    have hmul : 0 ≤ nd.mn * c := Int.mul_nonneg m0 c1
    have hmul2 : nd.mn * c ≤ 30 * 1000000000 := Int.mul_le_mul m30 c2 c1 (by omega)
    refine asIntI ⟨n3 (eS hST hE2), ?_⟩
    rw [w64 (by omega) (by omega)]
    refine ⟨(eS hST hE2).1, _, rfl, min_pos hmul, min_le9 _, fun t a b ha h => ?_⟩
    obtain ⟨k, q1, q2, q⟩ := (En8 hok hnd h8 hz).1 h
    have h1 := pw_long hle (c3 t) k ha q
    have h2 : nd.mn * c ≤ (k : Int) * c := Int.mul_le_mul_of_nonneg_right (by omega) c1
    have := min_le (nd.mn * c)
    omega
  · rw [J_impl_Rx_shortest_1_eq hD]
    refine ⟨hST.1, 0, rfl, by omega, by omega, fun t a b ha h => ?_⟩
    have := (En_le hok i hi a b ha h).1
    omega

include hok hxl in
theorem all_sho : ∀ (i : Nat), i < x.length → ShoC x i := by
  intro i
  induction i using Nat.strongRecOn with
  | _ i ih => intro hi; exact sho_of hok hxl hi fun j hj => ih j hj (by omega)

end

end Go.Proofs.YtpjkammmoaeheaaDoor.Aw

/- Contracts: the program's answers on the whole expression; the law. -/
set_option linter.unusedSimpArgs false
set_option linter.unusedVariables false
set_option maxRecDepth 10000
namespace Go.Proofs.YtpjkammmoaeheaaDoor.Aw
open Go Go.RowKit

theorem c_Nullable {F : Nat → Prop} {H : AH} {v : V} {x : List Nd} (hx : IsNodes F H v x) : CallsA prog impl_Nullable [.agg [v]] H fun r H' => Ext0 H H' ∧ ∃ z, r = .bool z ∧ (RxOk x → NulT x (x.length - 1) z) := by
  have hx0 := hx
  obtain ⟨xb, xi, xc, rfl, -⟩ := hx
  refine impl_Nullable_in fun D hD => ?_
  rw [impl_Nullable_eq hD]
  generalize hG : H ++ [Blk.cells [V.sl xb xi x.length xc] false] = G
  have hEG : Ext0 H G := by rw [← hG]; exact Ext.app _ _ _
  have gX : G[H.length]? = some (.cells [V.sl xb xi x.length xc] false) := by rw [← hG]; exact get_new _ _
  refine ldSl (cell_of (i := 0) gX rfl) ((c_implRxOk (hx0.keep0 hEG)).use ?_)
  rintro _ G1 ⟨⟨u, rfl, hu⟩, hE1⟩
  have n0 : ∀ {A : AH}, Ext0 G A → A.cell H.length 0 = some (V.sl xb xi x.length xc) := fun h => cell_of (i := 0) (h.get gX id) rfl
  refine asBoolI (spl (fun h => ?_) (fun h => ?_))
  · have ok := hu.1 h
    have hpos := ok.pos
    have hmost := ok.most
    refine ldSl (n0 hE1) (ldSl (n0 hE1) ((c_last hpos (by omega)).use ?_))
    rintro _ G2 ⟨rfl, hE2⟩
    have hE12 := hE1.trans hE2
    refine asIntI ⟨⟨n0 hE12, trivial⟩, (all_nul ok.node hmost (x.length - 1) (by omega) _ _ _ (hx0.keep0 (hEG.trans hE12))).use ?_⟩
    rintro _ G3 ⟨hE3, z, rfl, hz⟩
    refine asBoolI ?_
    rw [J_impl_Nullable_1_eq hD]
    exact ⟨(hEG.trans hE12).trans hE3, z, rfl, fun _ => hz⟩
  · rw [J_impl_Nullable_1_eq hD]
    exact ⟨hEG.trans hE1, false, rfl, fun ok => by have := hu.2 ok; rw [h] at this; cases this⟩

theorem c_FirstOf {F : Nat → Prop} {H : AH} {v : V} {x : List Nd} (hx : IsNodes F H v x) : CallsA prog impl_FirstOf [.agg [v]] H fun r H' => Ext0 H H' ∧ ∃ c, IsSpans (fun _ => True) H' r c ∧ COk c ∧ (RxOk x → FstT x (x.length - 1) c) := by
  have hx0 := hx
  obtain ⟨xb, xi, xc, rfl, -⟩ := hx
  refine impl_FirstOf_in fun D hD => ?_
  rw [impl_FirstOf_eq hD]
  generalize hG : H ++ [Blk.cells [V.sl xb xi x.length xc] false] = G
  have hEG : Ext0 H G := by rw [← hG]; exact Ext.app _ _ _
  have gX : G[H.length]? = some (.cells [V.sl xb xi x.length xc] false) := by rw [← hG]; exact get_new _ _
  have nilOk : COk [] := fun i s h => by simp at h
  refine ldSl (cell_of (i := 0) gX rfl) ((c_implRxOk (hx0.keep0 hEG)).use ?_)
  rintro _ G1 ⟨⟨u, rfl, hu⟩, hE1⟩
  have n0 : ∀ {A : AH}, Ext0 G A → A.cell H.length 0 = some (V.sl xb xi x.length xc) := fun h => cell_of (i := 0) (h.get gX id) rfl
  refine asBoolI (splNot (fun h => ⟨hEG.trans hE1, [], IsRow.nil, nilOk, fun ok => by have := hu.2 ok; rw [h] at this; cases this⟩) (fun h => ?_))
  have ok := hu.1 h
  have hpos := ok.pos
  have hmost := ok.most
  rw [J_impl_FirstOf_1_eq hD]
  refine ldSl (n0 hE1) (ldSl (n0 hE1) ((c_last hpos (by omega)).use ?_))
  rintro _ G2 ⟨rfl, hE2⟩
  have hE12 := hE1.trans hE2
  refine asIntI ⟨⟨n0 hE12, trivial⟩, (all_fst ok.node hmost (x.length - 1) (by omega) _ _ _ (hx0.keep0 (hEG.trans hE12))).use ?_⟩
  rintro r G3 ⟨hE3, c, hc, hcT⟩
  have hc0 := hc
  obtain ⟨_, _, _, rfl, -⟩ := hc
  refine asSlI ((c_Joined hc0 (b := []) IsRow.nil).use ?_)
  rintro r2 G4 ⟨hn, -⟩
  have hn := hn ⟨hcT.1, nilOk⟩
  have hn0 := hn
  obtain ⟨_, _, _, rfl, -⟩ := hn
  refine asSlI ⟨((hEG.trans hE12).trans hE3).trans hn0.ext, _, hn0.spans.mono fun _ _ => trivial, cls_ok _, fun _ => ⟨cls_ok _, fun t a b ha hab h => ?_⟩⟩
  obtain ⟨ch, q1, q2⟩ := hcT.2 t a b ha hab h
  exact ⟨ch, q1, by rw [mk_cls _ ch.toNat_lt, q2, Bool.true_or]⟩

theorem c_Shortest {F : Nat → Prop} {H : AH} {v : V} {x : List Nd} (hx : IsNodes F H v x) : CallsA prog impl_Shortest [.agg [v]] H fun r H' => Ext0 H H' ∧ ∃ n, r = .int .i64 n ∧ (RxOk x → ShoT x (x.length - 1) n) := by
  have hx0 := hx
  obtain ⟨xb, xi, xc, rfl, -⟩ := hx
  refine impl_Shortest_in fun D hD => ?_
  rw [impl_Shortest_eq hD]
  generalize hG : H ++ [Blk.cells [V.sl xb xi x.length xc] false] = G
  have hEG : Ext0 H G := by rw [← hG]; exact Ext.app _ _ _
  have gX : G[H.length]? = some (.cells [V.sl xb xi x.length xc] false) := by rw [← hG]; exact get_new _ _
  refine ldSl (cell_of (i := 0) gX rfl) ((c_implRxOk (hx0.keep0 hEG)).use ?_)
  rintro _ G1 ⟨⟨u, rfl, hu⟩, hE1⟩
  have n0 : ∀ {A : AH}, Ext0 G A → A.cell H.length 0 = some (V.sl xb xi x.length xc) := fun h => cell_of (i := 0) (h.get gX id) rfl
  refine asBoolI (splNot (fun h => ⟨hEG.trans hE1, -1, rfl, fun ok => by have := hu.2 ok; rw [h] at this; cases this⟩) (fun h => ?_))
  have ok := hu.1 h
  have hpos := ok.pos
  have hmost := ok.most
  rw [J_impl_Shortest_1_eq hD]
  refine ldSl (n0 hE1) (ldSl (n0 hE1) ((c_last hpos (by omega)).use ?_))
  rintro _ G2 ⟨rfl, hE2⟩
  have hE12 := hE1.trans hE2
  refine asIntI ⟨⟨n0 hE12, trivial⟩, (all_sho ok.node hmost (x.length - 1) (by omega) _ _ _ (hx0.keep0 (hEG.trans hE12))).use ?_⟩
  rintro _ G3 ⟨hE3, n, rfl, hn⟩
  exact asIntI ⟨(hEG.trans hE12).trans hE3, n, rfl, fun _ => hn⟩

theorem c_Longest {F : Nat → Prop} {H : AH} {v : V} {x : List Nd} {t : List UInt8} {pl : Int} (hx : IsNodes F H v x) : CallsA prog impl_Longest [.agg [v], .str t, .int .i64 pl] H fun r H' => Ext0 H H' ∧ (endsOf x t pl = [] → r = .int .i64 (-1)) ∧ ∀ z, (endsOf x t pl)[(endsOf x t pl).length - 1]? = some z → r = .int .i64 z := by
  have hx0 := hx
  obtain ⟨xb, xi, xc, rfl, -⟩ := hx
  refine impl_Longest_in fun D hD => ?_
  rw [impl_Longest_eq hD]
  generalize hG : H ++ [Blk.cells [V.sl xb xi x.length xc] false] = G
  have hEG : Ext0 H G := by rw [← hG]; exact Ext.app _ _ _
  have gX : G[H.length]? = some (.cells [V.sl xb xi x.length xc] false) := by rw [← hG]; exact get_new _ _
  refine ldSl (cell_of (i := 0) gX rfl) ((c_implEndsAt (hx0.keep0 hEG)).use ?_)
  rintro r G1 ⟨hr, hE1⟩
  have hE := hEG.trans hE1
  generalize endsOf x t pl = l at hr
  have hr0 := hr
  obtain ⟨rb', ri, rc, rfl, hl, -, hc⟩ := hr
  refine asSlI (splE (fun h => ⟨hE, fun _ => rfl, fun z hz => ?_⟩) (fun h => ?_))
  · have : l = [] := List.length_eq_zero_iff.1 (by omega)
    subst this; simp at hz
  · have hpos : 0 < l.length := by omega
    obtain ⟨z, hz⟩ : ∃ z, l[l.length - 1]? = some z := ⟨_, List.getElem?_eq_getElem (by omega)⟩
    rw [J_impl_Longest_1_eq hD, w64 (by omega) (by omega), show ((l.length : Int) - 1).toNat = l.length - 1 by omega]
    refine ⟨⟨by omega, by omega⟩, ldInt (hc _ z hz) ⟨hE, fun h0 => by rw [h0] at hpos; simp at hpos, fun z' hz' => ?_⟩⟩
    rw [hz] at hz'; cases hz'; rfl

/-- What an end tells. -/
theorem mem_endsOf {x : List Nd} {t : List UInt8} {pl z : Int} (h : z ∈ endsOf x t pl) : RxOk x ∧ t.length ≤ 300 ∧ 0 ≤ pl ∧ pl ≤ t.length ∧ ∃ b : Nat, z = b ∧ b ≤ t.length ∧ En x t (x.length - 1) pl.toNat b := by
  by_cases hc : RxOk x ∧ t.length ≤ 300 ∧ 0 ≤ pl ∧ pl ≤ t.length
  · obtain ⟨h1, h2, h3, h4⟩ := hc
    rw [endsOf_yes h1 h2 h3 h4, mem_endsL] at h
    obtain ⟨b, q1, q2, q3⟩ := h
    exact ⟨h1, h2, h3, h4, b, q3, by omega, dB_iff.1 q2⟩
  · rw [endsOf_no hc] at h; simp at h

theorem c_FnBegins {H : AH} {b i n : Nat} {c : Cap} (hb : b < H.length) (hc : ∀ k, k < n → ∃ x, H.cell b (i + k * 1) = some (.int .u8 x) ∧ 0 ≤ x ∧ x ≤ 255) : CallsA prog laws_FnBegins [.sl b i n c] H fun r _ => r = .bool true := by
  refine laws_FnBegins_in fun D hD => ?_
  rw [laws_FnBegins_eq hD]
  refine (c_big _ _ _ _ _).use ?_
  rintro _ H1 ⟨rfl, rfl⟩
  refine asBoolI (splD (fun _ => rfl) (fun hn => ?_))
  rw [J_laws_FnBegins_1_eq hD]
  refine (c_DrawEndsAt (by omega) hb hc).use ?_
  rintro _ H2 ⟨xb, xi, xn, xc, x, t, pl, rfl, hx, ht, hE2⟩
  have hxn := hx.len
  subst hxn
  refine asTupI (unconsI (asAggI (unconsI (asSlI (unnilI (unconsI (asStrI (unconsI (asIntI (unnilI ?_))))))))))
  refine stAll (vs := [V.sl 0 0 0 .nil]) (get_new _ _) rfl ?_
  generalize hG : (H2 ++ [Blk.cells [V.sl 0 0 0 .nil] false]).set H2.length (.cells [V.sl xb xi x.length xc] false) = G
  have hEG : Ext0 H2 G := by rw [← hG]; exact (Ext.app (fun _ => False) _ _).new (Ext.set _ _ _ (.inr (Nat.le_refl _)))
  have gX : G[H2.length]? = some (.cells [V.sl xb xi x.length xc] false) := by rw [← hG]; exact get_set _ (by simp)
  have hxG := hx.keep0 hEG
  have nX : ∀ {A : AH}, Ext0 G A → A.cell H2.length 0 = some (V.sl xb xi x.length xc) := fun h => cell_of (i := 0) (h.get gX id) rfl
  refine ldSl (nX (Ext.refl _ _)) ((c_specEndsAt hxG).use ?_)
  rintro rs G1 ⟨hrs, hE1⟩
  have hrs0 := hrs
  obtain ⟨sb, si, sc, rfl, -⟩ := hrs
  refine asSlI (ldSl (nX hE1) ((c_implEndsAt (hxG.keep0 hE1)).use ?_))
  rintro re G3 ⟨hre, hE3⟩
  have hre0 := hre
  obtain ⟨eb, ei, ec, rfl, hel, -, hecell⟩ := hre
  have hE13 := hE1.trans hE3
  refine asSlI ((c_sameInts (F := fun _ => True) (hre0.mono fun _ _ => trivial) ((hrs0.keep0 hE3).mono fun _ _ => trivial)).use ?_)
  rintro _ G3 ⟨rfl, rfl⟩
  refine asBoolI (splNot (fun h => by simp at h) (fun _ => ?_))
  rw [J_laws_FnBegins_2_eq hD]
  refine ldSl (nX hE13) ((c_FirstOf (hxG.keep0 hE13)).use ?_)
  rintro rf G4 ⟨hE4, c, hc, cOk, hcT⟩
  have hc0 := hc
  obtain ⟨fb, fi, fc, rfl, -⟩ := hc
  have hE14 := hE13.trans hE4
  refine asSlI ?_
  generalize hl : endsOf x t pl = l at hel hecell
  refine loopUp (σ := Unit) l.length (fun k _ => [(3, .ptr H2.length 0), (7, .sl eb ei l.length ec), (8, .sl fb fi (List.length c) fc), (4, .str t), (5, .int .i64 pl), (9, .int .i64 k)]) (fun k _ H' => Ext0 G4 H') () rfl (Ext.refl _ _) ?_
  rintro k - A hk hA
  have hGA := hE14.trans hA
  have ecell : ∀ {B : AH}, Ext0 G4 B → ∀ k z, l[k]? = some z → B.cell eb (ei + k * 1) = some (.int .i64 z) := fun h k z hz => h.cell (hE4.cell (hecell k z hz) id) id
  rw [L_laws_FnBegins_4_eq hD]
  refine splD (fun hkl => ?_) (fun hkl => ?_)
  · have hkl : k < l.length := by omega
    obtain ⟨z, hz⟩ : ∃ z, l[k]? = some z := ⟨_, List.getElem?_eq_getElem hkl⟩
    have hmem : z ∈ endsOf x t pl := by rw [hl]; exact List.mem_of_getElem? hz
    obtain ⟨ok, t300, p0, p1, e, rfl, het, hen⟩ := mem_endsOf hmem
    have hle := En_le (t := t) ok.node (x.length - 1) (by have := ok.pos; omega) pl.toNat e (by omega) hen
    have J7 : ∀ (z : Bool) (B : AH), z = false → Ext0 G4 B → J_laws_FnBegins_7 D (fun r _ => r = .bool true) (Nxt (σ := Unit) l.length (fun k _ => [(3, .ptr H2.length 0), (7, .sl eb ei l.length ec), (8, .sl fb fi (List.length c) fc), (4, .str t), (5, .int .i64 pl), (9, .int .i64 k)]) (fun k _ H' => Ext0 G4 H') k)
        [(75, .bool z), (5, .int .i64 pl), (4, .str t), (8, .sl fb fi (List.length c) fc), (7, .sl eb ei l.length ec), (3, .ptr H2.length 0), (9, .int .i64 k)] B := by
      intro z B hzf hB
      rw [J_laws_FnBegins_7_eq hD]
      refine splF hzf ?_
      rw [J_laws_FnBegins_6_eq hD, inc (by omega)]
      exact nxt () hkl rfl hB
    have ec' : ∀ {B : AH}, Ext0 G4 B → B.cell eb (ei + ((k : Int)).toNat * 1) = some (.int .i64 e) := fun h => by rw [tn]; exact ecell h k _ hz
    have inK : inB (k : Int) l.length := ⟨by omega, by omega⟩
    rw [J_laws_FnBegins_5_eq hD]
    refine ⟨inK, ldInt (ec' hA) (ldSl (nX hGA) ((c_Shortest (hxG.keep0 hGA)).use ?_))⟩
    rintro _ B ⟨hE5, s, rfl, hs⟩
    have hsT := (hs ok).2.2 t pl.toNat e (by omega) hen
    have hB := hA.trans hE5
    have hGB := hGA.trans hE5
    refine asIntI ⟨ec' hB, ?_⟩
    rw [w64 (by omega) (by omega)]
    have again : ∀ (C : AH), Ext0 G4 C → pl < (e : Int) → inB pl t.length ∧ CallsA prog impl_ClassHas [.sl fb fi (List.length c) fc, .int .u8 ((byteAt t pl).toNat)] C fun v7 H3 => asBool v7 fun t1 => J_laws_FnBegins_7 D (fun r _ => r = .bool true) (Nxt (σ := Unit) l.length (fun k _ => [(3, .ptr H2.length 0), (7, .sl eb ei l.length ec), (8, .sl fb fi (List.length c) fc), (4, .str t), (5, .int .i64 pl), (9, .int .i64 k)]) (fun k _ H' => Ext0 G4 H') k)
        [(75, .bool !t1), (5, .int .i64 pl), (4, .str t), (8, .sl fb fi (List.length c) fc), (7, .sl eb ei l.length ec), (3, .ptr H2.length 0), (9, .int .i64 k)] H3 := by
      intro C hC hlt
      obtain ⟨ch, q1, q2⟩ := (hcT ok).2 t pl.toNat e (by omega) (by omega) hen
      obtain ⟨q3, q4⟩ := List.getElem?_eq_some_iff.1 q1
      have hbt : byteAt t pl = ch := by simp [byteAt, q3, q4]
      have h256 := ch.toNat_lt
      refine ⟨⟨p0, by omega⟩, ?_⟩
      rw [hbt]
      refine (c_ClassHas (hc0.keep0 hC) cOk (by omega) (by omega)).use ?_
      rintro _ C2 ⟨rfl, hE6⟩
      refine asBoolI (J7 _ C2 ?_ (hC.trans hE6))
      rw [tn, q2]; rfl
    refine splD (fun h => by omega) (fun _ => ⟨inK, ldInt (ec' hB) (splE (fun he => ?_) (fun he => ⟨inK, ldInt (ec' hB) (splD (fun hgt => again B hB hgt) (fun _ => J7 _ B rfl hB))⟩))⟩)
    refine ldSl (nX hGB) ((c_Nullable (hxG.keep0 hGB)).use ?_)
    rintro _ C ⟨hE6, y, rfl, hy⟩
    have epl : e = pl.toNat := by omega
    have hyt : y = true := hy ok t pl.toNat (by omega) (by rw [epl] at hen; exact hen)
    have hC := hB.trans hE6
    exact asBoolI (splNot (fun h => by rw [h] at hyt; cases hyt) (fun _ => ⟨inK, ldInt (ec' hC) (splD (fun hgt => again C hC hgt) (fun _ => J7 _ C rfl hC))⟩))
  · rw [J_laws_FnBegins_3_eq hD]
    have long : ∀ {B : AH}, Ext0 G4 B → CallsA prog impl_Longest [.agg [.sl xb xi x.length xc], .str t, .int .i64 pl] B fun r H' => Ext0 B H' ∧ (l = [] → r = .int .i64 (-1)) ∧ ∀ z, l[l.length - 1]? = some z → r = .int .i64 z := fun {B} h => by
      have := c_Longest (t := t) (pl := pl) (hxG.keep0 (hE14.trans h))
      rwa [hl] at this
    refine splE (fun h0 => ldSl (nX hGA) ((long hA).use ?_)) (fun h0 => ?_)
    · rintro _ B ⟨hE5, h1, -⟩
      rw [h1 (List.length_eq_zero_iff.1 (by omega))]
      exact asIntI rfl
    · obtain ⟨z, hz⟩ : ∃ z, l[l.length - 1]? = some z := ⟨_, List.getElem?_eq_getElem (by omega)⟩
      rw [J_laws_FnBegins_8_eq hD, w64 (by omega) (by omega), show ((l.length : Int) - 1).toNat = l.length - 1 by omega]
      refine ldSl (nX hGA) ⟨⟨by omega, by omega⟩, ldInt (ecell hA _ z hz) ((long hA).use ?_)⟩
      rintro _ B ⟨hE5, -, h1⟩
      rw [h1 z hz]
      exact asIntI ⟨ecell (hA.trans hE5) _ z hz, by simp⟩

end Go.Proofs.YtpjkammmoaeheaaDoor.Aw
