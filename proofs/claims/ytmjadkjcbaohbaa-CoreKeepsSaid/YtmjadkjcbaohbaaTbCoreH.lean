/- Lemmas and walks that the proof of this claim uses: TbCoreH. -/
import Derived.Test.YtmjadkjcbaohbaaTbCoreG
import Derived.Test.YtmjadkjcbaohbaaTbCoreSpec5
import Derived.Test.YtmjadkjcbaohbaaProg
import Derived.KernelRfl
namespace Go.Core
open Go.Tb Go.Proofs
set_option linter.unusedVariables false
set_option linter.unusedSimpArgs false

theorem s38 : tyS Try.prog 38 = some (84, 2, 16, [.bool false, .int .i64 0]) := by kernel_rfl


set_option maxRecDepth 20000 in
theorem core_Latest {c : Core} {A_c_bounds : Option Addr} {c_c_bounds : Nat} {a : Int} {w : World} (h_c_bounds : Sl w A_c_bounds c_c_bounds 3 (c.bounds.map encB)) : Calls Try.prog 25 #[.agg #[.int .i64 c.layers, .slice A_c_bounds c.bounds.length c_c_bounds], .int .i64 a] w (fun e w' => ∃ (A0 : Option Addr) (c0 : Nat), e = .returned (.tuple #[.slice A0 (((latest c a).1).length) c0, .int .i64 ((latest c a).2)]) ∧ Hp w w' [.own A0 c0 84 2 (List.map encMk (((latest c a).1)))]) := by
  refine calls_of_cw (args := [.agg #[.int .i64 c.layers, .slice A_c_bounds c.bounds.length c_c_bounds], .int .i64 a]) Try.func25 rfl rfl rfl rfl ?_
  have H := Hp.start w
  have R0 := H.ext
  refine CW.seq fun K1 hK1 => ?_
  refine CW.region ?_
  refine LW.go rfl rfl (OW.box rfl fun b1 w1 N1 => ?_)
  replace H : Hp w w1 [.blk b1 24 [.int .i64 c.layers, .slice A_c_bounds c.bounds.length c_c_bounds]] := H.new N1 N1.blk
  replace R0 := H.ext
  refine LW.pure rfl rfl (RV.assign rfl) ?_
  refine LW.pure rfl rfl (RV.assign rfl) ?_
  refine LW.nil (hK1 _ _ ?_)
  refine CW.seq fun K2 hK2 => ?_
  refine CW.seq fun K3 hK3 => ?_
  refine CW.region ?_
  refine LW.pure rfl rfl (RV.loadA [.int .i64 c.layers, .slice A_c_bounds c.bounds.length c_c_bounds] k24 rfl (H.blk 0 rfl).cells rfl rfl) ?_
  refine LW.pure rfl rfl (RV.move rfl) ?_
  refine LW.go rfl rfl (OW.buildSlice (e := 3) (vs := [.int .i64 a]) (cs := [.int .i64 a]) rfl (fun _ => by kernel_rfl) fun b2 w2 N2 => ?_)
  replace H : Hp w w2 [.own (some ⟨b2, 0, none⟩) 1 3 1 (List.map encI (([a] : List Int))), .blk b1 24 [.int .i64 c.layers, .slice A_c_bounds c.bounds.length c_c_bounds]] := H.made' (enc := encI) (l := ([a] : List Int)) N2 N2.blk (fun _ => rfl) (by simp) (by first | decide | omega | simp)
  replace R0 := H.ext
  refine LW.go rfl rfl (OW.call c58 rfl (core_layers (c := c) (l := ([a] : List Int)) (h_c_bounds.ext R0) (H.own 0 rfl).sl) ?_)
  rintro _ w3 ⟨rfl, E1⟩
  refine ⟨_, rfl, ?_⟩
  replace H := H.grow E1
  replace R0 := H.ext
  refine LW.pure rfl rfl (RV.assign rfl) ?_
  refine LW.nil (hK3 _ _ ?_)
  refine CW.seq fun K4 hK4 => ?_
  refine CW.region ?_
  refine LW.pure rfl rfl (RV.move rfl) ?_
  refine LW.pure rfl rfl (RV.nei rfl rfl) ?_
  refine LW.nil (hK4 _ _ ?_)
  refine CW.cond rfl (fun h1 => ?_) (fun h1 => ?_)
  ·
    have h1 := (Bool.not_eq_true' _).mp h1
    have h1 := of_decide_eq_false h1
    refine CW.seq fun K5 hK5 => ?_
    refine CW.region ?_
    refine LW.pure rfl rfl (RV.move rfl) ?_
    refine LW.pure rfl rfl (RV.assign rfl) ?_
    refine LW.pure rfl rfl (RV.assign rfl) ?_
    refine LW.nil (hK5 _ _ ?_)
    refine CW.ret ?_
    refine ⟨_, (ResOK.two rfl rfl), ?_⟩
    replace H : Hp w w3 [.own none 0 84 2 (List.map encMk (([] : List Mark))), .own (some ⟨b2, 0, none⟩) 1 3 1 (List.map encI (([a] : List Int))), .blk b1 24 [.int .i64 c.layers, .slice A_c_bounds c.bounds.length c_c_bounds]] := H.nilOwn 84 2
    replace R0 := H.ext
    replace H : Hp w w3 [.own none 0 84 2 (List.map encMk (([] : List Mark)))] := H.pick [0] (by decide) rfl
    replace R0 := H.ext
    rw [show latest c a = ([], layersE c [a]) by simp [latest, h1]]
    refine ⟨none, 0, rfl, ?_⟩
    · exact H
  ·
    have h1 := (Bool.not_eq_false' _).mp h1
    have h1 := of_decide_eq_true h1
    have h1e := layers_ok1 h1
    have hvv := validate_ok h1e.1
    refine CW.skip (hK2 _ _ ?_)
    refine CW.seq fun K6 hK6 => ?_
    refine CW.region ?_
    refine LW.pure rfl rfl (RV.loadA [.int .i64 c.layers, .slice A_c_bounds c.bounds.length c_c_bounds] k24 rfl (H.blk 1 rfl).cells rfl rfl) ?_
    refine LW.go rfl rfl (OW.call c60 rfl (core_tables (c := c) (h_c_bounds.ext R0) (h1e.1)) ?_)
    rintro _ w4 ⟨A2_0, c2_0, hs2_0, rfl, E2⟩
    refine ⟨_, rfl, ?_⟩
    replace H : Hp w w4 [.tab A2_0 c2_0 76 hs2_0 75 2 (encM encT (((tables c).1))), .own (some ⟨b2, 0, none⟩) 1 3 1 (List.map encI (([a] : List Int))), .blk b1 24 [.int .i64 c.layers, .slice A_c_bounds c.bounds.length c_c_bounds]] := H.append E2
    replace R0 := H.ext
    refine LW.pure rfl rfl (RV.move rfl) ?_
    refine LW.pure rfl rfl (RV.extract rfl rfl) ?_
    refine LW.pure rfl rfl (RV.extract rfl rfl) ?_
    refine LW.pure rfl rfl (RV.assign rfl) ?_
    refine LW.pure rfl rfl (RV.assign rfl) ?_
    refine LW.nil (hK6 _ _ ?_)
    refine CW.seq fun K7 hK7 => ?_
    refine CW.seq fun K8 hK8 => ?_
    refine CW.region ?_
    refine LW.pure rfl rfl (RV.move rfl) ?_
    refine LW.pure rfl rfl (RV.nei rfl rfl) ?_
    refine LW.nil (hK8 _ _ ?_)
    refine CW.cond rfl (fun h2 => ?_) (fun h2 => ?_)
    ·
      have h2 := (Bool.not_eq_true' _).mp h2
      have h2 := of_decide_eq_false h2
      obtain ⟨hcl, hce⟩ := tables_no h2
      refine CW.seq fun K9 hK9 => ?_
      refine CW.region ?_
      refine LW.pure rfl rfl (RV.move rfl) ?_
      refine LW.pure rfl rfl (RV.assign rfl) ?_
      refine LW.pure rfl rfl (RV.assign rfl) ?_
      refine LW.nil (hK9 _ _ ?_)
      refine CW.ret ?_
      refine ⟨_, (ResOK.two rfl rfl), ?_⟩
      replace H : Hp w w4 [.own none 0 84 2 (List.map encMk (([] : List Mark))), .tab A2_0 c2_0 76 hs2_0 75 2 (encM encT (((tables c).1))), .own (some ⟨b2, 0, none⟩) 1 3 1 (List.map encI (([a] : List Int))), .blk b1 24 [.int .i64 c.layers, .slice A_c_bounds c.bounds.length c_c_bounds]] := H.nilOwn 84 2
      replace R0 := H.ext
      replace H : Hp w w4 [.own none 0 84 2 (List.map encMk (([] : List Mark)))] := H.pick [0] (by decide) rfl
      replace R0 := H.ext
      rw [show latest c a = ([], (tables c).2) by simp [latest, h1, hcl, hce]]
      refine ⟨none, 0, rfl, ?_⟩
      · exact H
    ·
      have h2 := (Bool.not_eq_false' _).mp h2
      have h2 := of_decide_eq_true h2
      obtain ⟨hcl, hte, hT⟩ := tables_ok h1e.1 h2
      have hTl := hT.sq.len
      refine CW.skip (hK7 _ _ ?_)
      refine CW.seq fun K10 hK10 => ?_
      refine CW.region ?_
      refine LW.pure rfl rfl (RV.assign rfl) ?_
      refine LW.nil (hK10 _ _ ?_)
      refine CW.seq fun K11 hK11 => ?_
      refine CW.seq fun K12 hK12 => ?_
      refine CW.region ?_
      refine LW.pure rfl rfl (RV.fieldAddr f24_0 rfl) ?_
      refine LW.pure rfl rfl (RV.load1 k3 rfl ((H.blk 2 rfl).cells.off 0) rfl) ?_
      refine LW.pure rfl rfl (RV.move rfl) ?_
      refine LW.nil (hK12 _ _ ?_)
      refine CW.block ?_
      replace H : Hp w w4 [.own none 0 84 2 (List.map encMk (([] : List Mark))), .tab A2_0 c2_0 76 hs2_0 75 2 (encM encT (((tables c).1))), .own (some ⟨b2, 0, none⟩) 1 3 1 (List.map encI (([a] : List Int))), .blk b1 24 [.int .i64 c.layers, .slice A_c_bounds c.bounds.length c_c_bounds]] := H.nilOwn 84 2
      replace R0 := H.ext
      refine CW.loop (fun meas ρ wl1 => ∃ (j : Nat) (AL1_9 : Option Addr) (cL1_9 : Nat), meas = Int.toNat c.layers - j ∧ ρ = [(1, .int .i64 a), (4, .slice none 0 0), (5, .int .i64 0), (7, .slice A2_0 (((tables c).1).length) c2_0), (9, .slice AL1_9 ((((List.range j).map fun b => mkL (mg (table c) (Int.toNat a) b))).length) cL1_9), (28, .int .i64 c.layers), (29, .int .i64 (↑j))] ∧ Hp w wl1 [.own AL1_9 cL1_9 84 2 (List.map encMk (((List.range j).map fun b => mkL (mg (table c) (Int.toNat a) b)))), .tab A2_0 c2_0 76 hs2_0 75 2 (encM encT (((tables c).1))), .own (some ⟨b2, 0, none⟩) 1 3 1 (List.map encI (([a] : List Int))), .blk b1 24 [.int .i64 c.layers, .slice A_c_bounds c.bounds.length c_c_bounds]] ∧ (j ≤ Int.toNat c.layers)) (Int.toNat c.layers - 0) ⟨_, ?_, 0, none, 0, rfl, rfl, ?_, ?_⟩ ?_
      · exact ⟨rfl, rfl, rfl, rfl, look_slice rfl (by first | rfl | omega | (simp; done)), rfl, look_int rfl (by first | rfl | omega | (simp; omega)), trivial⟩
      · exact H
      · omega
      rintro _ _ wl1 ⟨j, AL1_9, cL1_9, rfl, rfl, H, hI1⟩
      have R0 := H.ext
      refine CW.seq fun K13 hK13 => ?_
      refine CW.region ?_
      refine LW.pure rfl rfl (RV.lss rfl rfl) ?_
      refine LW.nil (hK13 _ _ ?_)
      refine CW.seq fun K14 hK14 => ?_
      refine CW.cond rfl (fun h3 => ?_) (fun h3 => ?_)
      ·
        have h3 := of_decide_eq_true h3
        refine CW.skip (hK14 _ _ ?_)
        refine CW.seq fun K15 hK15 => ?_
        refine CW.block ?_
        refine CW.seq fun K16 hK16 => ?_
        refine CW.region ?_
        refine LW.pure rfl rfl (RV.move rfl) ?_
        refine LW.pure rfl rfl (RV.assign rfl) ?_
        refine LW.nil (hK16 _ _ ?_)
        refine CW.seq fun K17 hK17 => ?_
        refine CW.region ?_
        refine LW.pure rfl rfl (RV.move rfl) ?_
        refine LW.pure rfl rfl (RV.move rfl) ?_
        have hb1 : 0 ≤ ((a) : Int) ∧ ((a) : Int) < ((((tables c).1).length : Nat) : Int) := by omega
        obtain ⟨x1, hx1⟩ := ex_at (l := ((tables c).1)) (j := Int.toNat a) (by first | omega | (simp; omega))
        have hlx1 := hT.sq.rowAt hx1
        obtain ⟨B1, e1, hh1⟩ := (H.tab 1 rfl).hd hx1
        refine LW.pure rfl rfl (RV.indexAddr s69 rfl rfl hb1 ((H.tab 1 rfl).addr_ hx1)) ?_
        refine LW.pure rfl rfl (RV.load1 k76 rfl ((H.tab 1 rfl).cell hx1 hh1) rfl) ?_
        refine LW.pure rfl rfl (RV.move rfl) ?_
        have hb2 : 0 ≤ ((↑j) : Int) ∧ ((↑j) : Int) < ((x1.length : Nat) : Int) := by omega
        obtain ⟨x2, hx2⟩ := ex_at (l := x1) (j := j) (by first | omega | (simp; omega))
        have hmx2 := mg_of hx1 hx2
        have hmt : mg (table c) (Int.toNat a) j = x2 := by rw [← hte]; exact hmx2
        have hbd := hT.bnd (Int.toNat a) j (by omega) (by omega)
        have hbe := hT.bnd j (Int.toNat a) (by omega) (by omega)
        rw [hte] at hbd hbe
        try rw [hmt] at hbd
        try rw [hmt] at hbe
        refine LW.pure rfl rfl (RV.indexAddr s76 rfl rfl hb2 (((H.tab 1 rfl).rowO hx1 hh1).sl.addr_ hx2)) ?_
        refine LW.pure rfl rfl (RV.loadA [.bool x2.known, .int .i64 x2.most] k75 rfl (((H.tab 1 rfl).rowO hx1 hh1).sl.at_ hx2) rfl rfl) ?_
        refine LW.go rfl rfl (OW.alloc z75 fun b3 w5 N3 => ?_)
        replace H : Hp w w5 [.blk b3 75 [.bool false, .int .i64 0], .own AL1_9 cL1_9 84 2 (List.map encMk (((List.range j).map fun b => mkL (mg (table c) (Int.toNat a) b)))), .tab A2_0 c2_0 76 hs2_0 75 2 (encM encT (((tables c).1))), .own (some ⟨b2, 0, none⟩) 1 3 1 (List.map encI (([a] : List Int))), .blk b1 24 [.int .i64 c.layers, .slice A_c_bounds c.bounds.length c_c_bounds]] := H.new N3 N3.blk
        replace R0 := H.ext
        refine LW.go rfl rfl (OW.store k75 rfl rfl (H.blk 0 rfl) (off := 0) (vs := [.bool x2.known, .int .i64 x2.most]) rfl rfl rfl rfl rfl fun w6 S1 => ?_)
        replace H : Hp w w6 [.blk b3 75 [.bool x2.known, .int .i64 x2.most], .own AL1_9 cL1_9 84 2 (List.map encMk (((List.range j).map fun b => mkL (mg (table c) (Int.toNat a) b)))), .tab A2_0 c2_0 76 hs2_0 75 2 (encM encT (((tables c).1))), .own (some ⟨b2, 0, none⟩) 1 3 1 (List.map encI (([a] : List Int))), .blk b1 24 [.int .i64 c.layers, .slice A_c_bounds c.bounds.length c_c_bounds]] := H.stored 0 rfl S1
        replace R0 := H.ext
        refine LW.nil (hK17 _ _ ?_)
        refine CW.seq fun K18 hK18 => ?_
        refine CW.seq fun K19 hK19 => ?_
        refine CW.region ?_
        refine LW.pure rfl rfl (RV.fieldAddr f75_0 rfl) ?_
        refine LW.pure rfl rfl (RV.load1 k4 rfl ((H.blk 0 rfl).cells.off 0) rfl) ?_
        refine LW.pure rfl rfl (RV.not rfl) ?_
        refine LW.nil (hK19 _ _ ?_)
        refine CW.cond rfl (fun h4 => ?_) (fun h4 => ?_)
        ·
          have h4 := (Bool.not_eq_true' _).mp h4
          refine CW.region ?_
          refine LW.pure rfl rfl (RV.fieldAddr f75_1 rfl) ?_
          refine LW.go rfl rfl (OW.store k3 rfl rfl (H.blk 0 rfl) (off := 1) (vs := [.int .i64 0]) rfl rfl rfl rfl rfl fun w7 S2 => ?_)
          replace H : Hp w w7 [.blk b3 75 [.bool x2.known, .int .i64 0], .own AL1_9 cL1_9 84 2 (List.map encMk (((List.range j).map fun b => mkL (mg (table c) (Int.toNat a) b)))), .tab A2_0 c2_0 76 hs2_0 75 2 (encM encT (((tables c).1))), .own (some ⟨b2, 0, none⟩) 1 3 1 (List.map encI (([a] : List Int))), .blk b1 24 [.int .i64 c.layers, .slice A_c_bounds c.bounds.length c_c_bounds]] := H.stored 0 rfl S2
          replace R0 := H.ext
          refine LW.nil (hK18 _ _ ?_)
          refine CW.region ?_
          refine LW.pure rfl rfl (RV.move rfl) ?_
          refine LW.pure rfl rfl (RV.fieldAddr f75_0 rfl) ?_
          refine LW.pure rfl rfl (RV.load1 k4 rfl ((H.blk 0 rfl).cells.off 0) rfl) ?_
          refine LW.pure rfl rfl (RV.fieldAddr f75_1 rfl) ?_
          refine LW.pure rfl rfl (RV.load1 k3 rfl ((H.blk 0 rfl).cells.off 1) rfl) ?_
          refine LW.pure rfl rfl (RV.build (vs := [.bool x2.known, .int .i64 0]) (cs := [.bool x2.known, .int .i64 0]) rfl (fun _ => by kernel_rfl)) ?_
          refine LW.go rfl rfl (OW.buildSlice (e := 84) (vs := [.agg #[.bool x2.known, .int .i64 0]]) (cs := [.bool x2.known, .int .i64 0]) rfl (fun _ => by kernel_rfl) fun b4 w8 N4 => ?_)
          replace H : Hp w w8 [.own (some ⟨b4, 0, none⟩) 1 84 2 (List.map encMk (([(⟨x2.known, 0⟩ : Mark)] : List Mark))), .blk b3 75 [.bool x2.known, .int .i64 0], .own AL1_9 cL1_9 84 2 (List.map encMk (((List.range j).map fun b => mkL (mg (table c) (Int.toNat a) b)))), .tab A2_0 c2_0 76 hs2_0 75 2 (encM encT (((tables c).1))), .own (some ⟨b2, 0, none⟩) 1 3 1 (List.map encI (([a] : List Int))), .blk b1 24 [.int .i64 c.layers, .slice A_c_bounds c.bounds.length c_c_bounds]] := H.made' (enc := encMk) (l := ([(⟨x2.known, 0⟩ : Mark)] : List Mark)) N4 N4.blk (fun _ => rfl) (by simp) (by first | decide | omega | simp)
          replace R0 := H.ext
          refine LW.go rfl rfl (OW.appendL (enc := encMk) (l := ((List.range j).map fun b => mkL (mg (table c) (Int.toNat a) b))) (xs := ([(⟨x2.known, 0⟩ : Mark)] : List Mark)) s38 rfl rfl (H.own 2 rfl) (H.own 0 rfl).sl (fun _ => rfl) rfl rfl (by first | omega | (simp; omega)) (by first | omega | (simp; omega)) fun A1 c1 w9 O1 M1 D1 => ?_)
          replace H : Hp w w9 [.own (some ⟨b4, 0, none⟩) 1 84 2 (List.map encMk (([(⟨x2.known, 0⟩ : Mark)] : List Mark))), .blk b3 75 [.bool x2.known, .int .i64 0], .own A1 c1 84 2 (List.map encMk ((((List.range j).map fun b => mkL (mg (table c) (Int.toNat a) b)) ++ ([(⟨x2.known, 0⟩ : Mark)] : List Mark)))), .tab A2_0 c2_0 76 hs2_0 75 2 (encM encT (((tables c).1))), .own (some ⟨b2, 0, none⟩) 1 3 1 (List.map encI (([a] : List Int))), .blk b1 24 [.int .i64 c.layers, .slice A_c_bounds c.bounds.length c_c_bounds]] := H.mod 2 rfl M1 O1 D1
          replace R0 := H.ext
          refine LW.pure rfl rfl (RV.assign rfl) ?_
          refine LW.nil (hK15 _ _ ?_)
          refine CW.region ?_
          refine LW.pure rfl rfl (RV.add rfl rfl (by omega)) ?_
          refine LW.pure rfl rfl (RV.move rfl) ?_
          refine LW.nil ?_
          replace H : Hp w w9 [.own A1 c1 84 2 (List.map encMk ((((List.range j).map fun b => mkL (mg (table c) (Int.toNat a) b)) ++ ([(⟨x2.known, 0⟩ : Mark)] : List Mark)))), .tab A2_0 c2_0 76 hs2_0 75 2 (encM encT (((tables c).1))), .own (some ⟨b2, 0, none⟩) 1 3 1 (List.map encI (([a] : List Int))), .blk b1 24 [.int .i64 c.layers, .slice A_c_bounds c.bounds.length c_c_bounds]] := H.pick [2, 3, 4, 5] (by decide) rfl
          replace R0 := H.ext
          refine ⟨_, ?_, _, ?_, j + 1, A1, c1, rfl, rfl, ?_, ?_⟩
          · omega
          · exact ⟨rfl, rfl, rfl, rfl, look_slice rfl (by first | rfl | omega | (simp; done)), rfl, look_int rfl (by first | rfl | omega | (simp; omega)), trivial⟩
          · rw [List.range_succ, List.map_append]; simp only [List.map_cons, List.map_nil]; rw [hmt]; first | (rw [show mkL x2 = ⟨x2.known, x2.most⟩ by simp [mkL, h4]]; exact H) | (rw [show mkL x2 = ⟨x2.known, 0⟩ by simp [mkL, h4]]; exact H)
          · omega
        ·
          have h4 := (Bool.not_eq_false' _).mp h4
          refine CW.skip (hK18 _ _ ?_)
          refine CW.region ?_
          refine LW.pure rfl rfl (RV.move rfl) ?_
          refine LW.pure rfl rfl (RV.fieldAddr f75_0 rfl) ?_
          refine LW.pure rfl rfl (RV.load1 k4 rfl ((H.blk 0 rfl).cells.off 0) rfl) ?_
          refine LW.pure rfl rfl (RV.fieldAddr f75_1 rfl) ?_
          refine LW.pure rfl rfl (RV.load1 k3 rfl ((H.blk 0 rfl).cells.off 1) rfl) ?_
          refine LW.pure rfl rfl (RV.build (vs := [.bool x2.known, .int .i64 x2.most]) (cs := [.bool x2.known, .int .i64 x2.most]) rfl (fun _ => by kernel_rfl)) ?_
          refine LW.go rfl rfl (OW.buildSlice (e := 84) (vs := [.agg #[.bool x2.known, .int .i64 x2.most]]) (cs := [.bool x2.known, .int .i64 x2.most]) rfl (fun _ => by kernel_rfl) fun b5 w10 N5 => ?_)
          replace H : Hp w w10 [.own (some ⟨b5, 0, none⟩) 1 84 2 (List.map encMk (([(⟨x2.known, x2.most⟩ : Mark)] : List Mark))), .blk b3 75 [.bool x2.known, .int .i64 x2.most], .own AL1_9 cL1_9 84 2 (List.map encMk (((List.range j).map fun b => mkL (mg (table c) (Int.toNat a) b)))), .tab A2_0 c2_0 76 hs2_0 75 2 (encM encT (((tables c).1))), .own (some ⟨b2, 0, none⟩) 1 3 1 (List.map encI (([a] : List Int))), .blk b1 24 [.int .i64 c.layers, .slice A_c_bounds c.bounds.length c_c_bounds]] := H.made' (enc := encMk) (l := ([(⟨x2.known, x2.most⟩ : Mark)] : List Mark)) N5 N5.blk (fun _ => rfl) (by simp) (by first | decide | omega | simp)
          replace R0 := H.ext
          refine LW.go rfl rfl (OW.appendL (enc := encMk) (l := ((List.range j).map fun b => mkL (mg (table c) (Int.toNat a) b))) (xs := ([(⟨x2.known, x2.most⟩ : Mark)] : List Mark)) s38 rfl rfl (H.own 2 rfl) (H.own 0 rfl).sl (fun _ => rfl) rfl rfl (by first | omega | (simp; omega)) (by first | omega | (simp; omega)) fun A2 c2 w11 O2 M2 D2 => ?_)
          replace H : Hp w w11 [.own (some ⟨b5, 0, none⟩) 1 84 2 (List.map encMk (([(⟨x2.known, x2.most⟩ : Mark)] : List Mark))), .blk b3 75 [.bool x2.known, .int .i64 x2.most], .own A2 c2 84 2 (List.map encMk ((((List.range j).map fun b => mkL (mg (table c) (Int.toNat a) b)) ++ ([(⟨x2.known, x2.most⟩ : Mark)] : List Mark)))), .tab A2_0 c2_0 76 hs2_0 75 2 (encM encT (((tables c).1))), .own (some ⟨b2, 0, none⟩) 1 3 1 (List.map encI (([a] : List Int))), .blk b1 24 [.int .i64 c.layers, .slice A_c_bounds c.bounds.length c_c_bounds]] := H.mod 2 rfl M2 O2 D2
          replace R0 := H.ext
          refine LW.pure rfl rfl (RV.assign rfl) ?_
          refine LW.nil (hK15 _ _ ?_)
          refine CW.region ?_
          refine LW.pure rfl rfl (RV.add rfl rfl (by omega)) ?_
          refine LW.pure rfl rfl (RV.move rfl) ?_
          refine LW.nil ?_
          replace H : Hp w w11 [.own A2 c2 84 2 (List.map encMk ((((List.range j).map fun b => mkL (mg (table c) (Int.toNat a) b)) ++ ([(⟨x2.known, x2.most⟩ : Mark)] : List Mark)))), .tab A2_0 c2_0 76 hs2_0 75 2 (encM encT (((tables c).1))), .own (some ⟨b2, 0, none⟩) 1 3 1 (List.map encI (([a] : List Int))), .blk b1 24 [.int .i64 c.layers, .slice A_c_bounds c.bounds.length c_c_bounds]] := H.pick [2, 3, 4, 5] (by decide) rfl
          replace R0 := H.ext
          refine ⟨_, ?_, _, ?_, j + 1, A2, c2, rfl, rfl, ?_, ?_⟩
          · omega
          · exact ⟨rfl, rfl, rfl, rfl, look_slice rfl (by first | rfl | omega | (simp; done)), rfl, look_int rfl (by first | rfl | omega | (simp; omega)), trivial⟩
          · rw [List.range_succ, List.map_append]; simp only [List.map_cons, List.map_nil]; rw [hmt]; first | (rw [show mkL x2 = ⟨x2.known, x2.most⟩ by simp [mkL, h4]]; exact H) | (rw [show mkL x2 = ⟨x2.known, 0⟩ by simp [mkL, h4]]; exact H)
          · omega
      ·
        have h3 := of_decide_eq_false h3
        refine CW.exit (hK11 _ _ ?_)
        refine CW.seq fun K20 hK20 => ?_
        refine CW.region ?_
        refine LW.pure rfl rfl (RV.move rfl) ?_
        refine LW.pure rfl rfl (RV.assign rfl) ?_
        refine LW.pure rfl rfl (RV.assign rfl) ?_
        refine LW.nil (hK20 _ _ ?_)
        refine CW.ret ?_
        refine ⟨_, (ResOK.two rfl rfl), ?_⟩
        replace H : Hp w wl1 [.own AL1_9 cL1_9 84 2 (List.map encMk (((List.range j).map fun b => mkL (mg (table c) (Int.toNat a) b))))] := H.pick [0] (by decide) rfl
        replace R0 := H.ext
        have e : j = Int.toNat c.layers := by omega
        subst e
        rw [show latest c a = ((List.range (Int.toNat c.layers)).map fun b => mkL (mg (table c) (Int.toNat a) b), 0) by simp [latest, h1, hcl]]
        refine ⟨AL1_9, cL1_9, rfl, ?_⟩
        · exact H

set_option maxRecDepth 20000 in
theorem core_Earliest {c : Core} {A_c_bounds : Option Addr} {c_c_bounds : Nat} {a : Int} {w : World} (h_c_bounds : Sl w A_c_bounds c_c_bounds 3 (c.bounds.map encB)) : Calls Try.prog 27 #[.agg #[.int .i64 c.layers, .slice A_c_bounds c.bounds.length c_c_bounds], .int .i64 a] w (fun e w' => ∃ (A0 : Option Addr) (c0 : Nat), e = .returned (.tuple #[.slice A0 (((earliest c a).1).length) c0, .int .i64 ((earliest c a).2)]) ∧ Hp w w' [.own A0 c0 84 2 (List.map encMk (((earliest c a).1)))]) := by
  refine calls_of_cw (args := [.agg #[.int .i64 c.layers, .slice A_c_bounds c.bounds.length c_c_bounds], .int .i64 a]) Try.func27 rfl rfl rfl rfl ?_
  have H := Hp.start w
  have R0 := H.ext
  refine CW.seq fun K1 hK1 => ?_
  refine CW.region ?_
  refine LW.go rfl rfl (OW.box rfl fun b1 w1 N1 => ?_)
  replace H : Hp w w1 [.blk b1 24 [.int .i64 c.layers, .slice A_c_bounds c.bounds.length c_c_bounds]] := H.new N1 N1.blk
  replace R0 := H.ext
  refine LW.pure rfl rfl (RV.assign rfl) ?_
  refine LW.pure rfl rfl (RV.assign rfl) ?_
  refine LW.nil (hK1 _ _ ?_)
  refine CW.seq fun K2 hK2 => ?_
  refine CW.seq fun K3 hK3 => ?_
  refine CW.region ?_
  refine LW.pure rfl rfl (RV.loadA [.int .i64 c.layers, .slice A_c_bounds c.bounds.length c_c_bounds] k24 rfl (H.blk 0 rfl).cells rfl rfl) ?_
  refine LW.pure rfl rfl (RV.move rfl) ?_
  refine LW.go rfl rfl (OW.buildSlice (e := 3) (vs := [.int .i64 a]) (cs := [.int .i64 a]) rfl (fun _ => by kernel_rfl) fun b2 w2 N2 => ?_)
  replace H : Hp w w2 [.own (some ⟨b2, 0, none⟩) 1 3 1 (List.map encI (([a] : List Int))), .blk b1 24 [.int .i64 c.layers, .slice A_c_bounds c.bounds.length c_c_bounds]] := H.made' (enc := encI) (l := ([a] : List Int)) N2 N2.blk (fun _ => rfl) (by simp) (by first | decide | omega | simp)
  replace R0 := H.ext
  refine LW.go rfl rfl (OW.call c58 rfl (core_layers (c := c) (l := ([a] : List Int)) (h_c_bounds.ext R0) (H.own 0 rfl).sl) ?_)
  rintro _ w3 ⟨rfl, E1⟩
  refine ⟨_, rfl, ?_⟩
  replace H := H.grow E1
  replace R0 := H.ext
  refine LW.pure rfl rfl (RV.assign rfl) ?_
  refine LW.nil (hK3 _ _ ?_)
  refine CW.seq fun K4 hK4 => ?_
  refine CW.region ?_
  refine LW.pure rfl rfl (RV.move rfl) ?_
  refine LW.pure rfl rfl (RV.nei rfl rfl) ?_
  refine LW.nil (hK4 _ _ ?_)
  refine CW.cond rfl (fun h1 => ?_) (fun h1 => ?_)
  ·
    have h1 := (Bool.not_eq_true' _).mp h1
    have h1 := of_decide_eq_false h1
    refine CW.seq fun K5 hK5 => ?_
    refine CW.region ?_
    refine LW.pure rfl rfl (RV.move rfl) ?_
    refine LW.pure rfl rfl (RV.assign rfl) ?_
    refine LW.pure rfl rfl (RV.assign rfl) ?_
    refine LW.nil (hK5 _ _ ?_)
    refine CW.ret ?_
    refine ⟨_, (ResOK.two rfl rfl), ?_⟩
    replace H : Hp w w3 [.own none 0 84 2 (List.map encMk (([] : List Mark))), .own (some ⟨b2, 0, none⟩) 1 3 1 (List.map encI (([a] : List Int))), .blk b1 24 [.int .i64 c.layers, .slice A_c_bounds c.bounds.length c_c_bounds]] := H.nilOwn 84 2
    replace R0 := H.ext
    replace H : Hp w w3 [.own none 0 84 2 (List.map encMk (([] : List Mark)))] := H.pick [0] (by decide) rfl
    replace R0 := H.ext
    rw [show earliest c a = ([], layersE c [a]) by simp [earliest, h1]]
    refine ⟨none, 0, rfl, ?_⟩
    · exact H
  ·
    have h1 := (Bool.not_eq_false' _).mp h1
    have h1 := of_decide_eq_true h1
    have h1e := layers_ok1 h1
    have hvv := validate_ok h1e.1
    refine CW.skip (hK2 _ _ ?_)
    refine CW.seq fun K6 hK6 => ?_
    refine CW.region ?_
    refine LW.pure rfl rfl (RV.loadA [.int .i64 c.layers, .slice A_c_bounds c.bounds.length c_c_bounds] k24 rfl (H.blk 1 rfl).cells rfl rfl) ?_
    refine LW.go rfl rfl (OW.call c60 rfl (core_tables (c := c) (h_c_bounds.ext R0) (h1e.1)) ?_)
    rintro _ w4 ⟨A2_0, c2_0, hs2_0, rfl, E2⟩
    refine ⟨_, rfl, ?_⟩
    replace H : Hp w w4 [.tab A2_0 c2_0 76 hs2_0 75 2 (encM encT (((tables c).1))), .own (some ⟨b2, 0, none⟩) 1 3 1 (List.map encI (([a] : List Int))), .blk b1 24 [.int .i64 c.layers, .slice A_c_bounds c.bounds.length c_c_bounds]] := H.append E2
    replace R0 := H.ext
    refine LW.pure rfl rfl (RV.move rfl) ?_
    refine LW.pure rfl rfl (RV.extract rfl rfl) ?_
    refine LW.pure rfl rfl (RV.extract rfl rfl) ?_
    refine LW.pure rfl rfl (RV.assign rfl) ?_
    refine LW.pure rfl rfl (RV.assign rfl) ?_
    refine LW.nil (hK6 _ _ ?_)
    refine CW.seq fun K7 hK7 => ?_
    refine CW.seq fun K8 hK8 => ?_
    refine CW.region ?_
    refine LW.pure rfl rfl (RV.move rfl) ?_
    refine LW.pure rfl rfl (RV.nei rfl rfl) ?_
    refine LW.nil (hK8 _ _ ?_)
    refine CW.cond rfl (fun h2 => ?_) (fun h2 => ?_)
    ·
      have h2 := (Bool.not_eq_true' _).mp h2
      have h2 := of_decide_eq_false h2
      obtain ⟨hcl, hce⟩ := tables_no h2
      refine CW.seq fun K9 hK9 => ?_
      refine CW.region ?_
      refine LW.pure rfl rfl (RV.move rfl) ?_
      refine LW.pure rfl rfl (RV.assign rfl) ?_
      refine LW.pure rfl rfl (RV.assign rfl) ?_
      refine LW.nil (hK9 _ _ ?_)
      refine CW.ret ?_
      refine ⟨_, (ResOK.two rfl rfl), ?_⟩
      replace H : Hp w w4 [.own none 0 84 2 (List.map encMk (([] : List Mark))), .tab A2_0 c2_0 76 hs2_0 75 2 (encM encT (((tables c).1))), .own (some ⟨b2, 0, none⟩) 1 3 1 (List.map encI (([a] : List Int))), .blk b1 24 [.int .i64 c.layers, .slice A_c_bounds c.bounds.length c_c_bounds]] := H.nilOwn 84 2
      replace R0 := H.ext
      replace H : Hp w w4 [.own none 0 84 2 (List.map encMk (([] : List Mark)))] := H.pick [0] (by decide) rfl
      replace R0 := H.ext
      rw [show earliest c a = ([], (tables c).2) by simp [earliest, h1, hcl, hce]]
      refine ⟨none, 0, rfl, ?_⟩
      · exact H
    ·
      have h2 := (Bool.not_eq_false' _).mp h2
      have h2 := of_decide_eq_true h2
      obtain ⟨hcl, hte, hT⟩ := tables_ok h1e.1 h2
      have hTl := hT.sq.len
      refine CW.skip (hK7 _ _ ?_)
      refine CW.seq fun K10 hK10 => ?_
      refine CW.region ?_
      refine LW.pure rfl rfl (RV.assign rfl) ?_
      refine LW.nil (hK10 _ _ ?_)
      refine CW.seq fun K11 hK11 => ?_
      refine CW.seq fun K12 hK12 => ?_
      refine CW.region ?_
      refine LW.pure rfl rfl (RV.fieldAddr f24_0 rfl) ?_
      refine LW.pure rfl rfl (RV.load1 k3 rfl ((H.blk 2 rfl).cells.off 0) rfl) ?_
      refine LW.pure rfl rfl (RV.move rfl) ?_
      refine LW.nil (hK12 _ _ ?_)
      refine CW.block ?_
      replace H : Hp w w4 [.own none 0 84 2 (List.map encMk (([] : List Mark))), .tab A2_0 c2_0 76 hs2_0 75 2 (encM encT (((tables c).1))), .own (some ⟨b2, 0, none⟩) 1 3 1 (List.map encI (([a] : List Int))), .blk b1 24 [.int .i64 c.layers, .slice A_c_bounds c.bounds.length c_c_bounds]] := H.nilOwn 84 2
      replace R0 := H.ext
      refine CW.loop (fun meas ρ wl1 => ∃ (j : Nat) (AL1_9 : Option Addr) (cL1_9 : Nat), meas = Int.toNat c.layers - j ∧ ρ = [(1, .int .i64 a), (4, .slice none 0 0), (5, .int .i64 0), (7, .slice A2_0 (((tables c).1).length) c2_0), (9, .slice AL1_9 ((((List.range j).map fun b => mkE (mg (table c) b (Int.toNat a)))).length) cL1_9), (28, .int .i64 c.layers), (29, .int .i64 (↑j))] ∧ Hp w wl1 [.own AL1_9 cL1_9 84 2 (List.map encMk (((List.range j).map fun b => mkE (mg (table c) b (Int.toNat a))))), .tab A2_0 c2_0 76 hs2_0 75 2 (encM encT (((tables c).1))), .own (some ⟨b2, 0, none⟩) 1 3 1 (List.map encI (([a] : List Int))), .blk b1 24 [.int .i64 c.layers, .slice A_c_bounds c.bounds.length c_c_bounds]] ∧ (j ≤ Int.toNat c.layers)) (Int.toNat c.layers - 0) ⟨_, ?_, 0, none, 0, rfl, rfl, ?_, ?_⟩ ?_
      · exact ⟨rfl, rfl, rfl, rfl, look_slice rfl (by first | rfl | omega | (simp; done)), rfl, look_int rfl (by first | rfl | omega | (simp; omega)), trivial⟩
      · exact H
      · omega
      rintro _ _ wl1 ⟨j, AL1_9, cL1_9, rfl, rfl, H, hI1⟩
      have R0 := H.ext
      refine CW.seq fun K13 hK13 => ?_
      refine CW.region ?_
      refine LW.pure rfl rfl (RV.lss rfl rfl) ?_
      refine LW.nil (hK13 _ _ ?_)
      refine CW.seq fun K14 hK14 => ?_
      refine CW.cond rfl (fun h3 => ?_) (fun h3 => ?_)
      ·
        have h3 := of_decide_eq_true h3
        refine CW.skip (hK14 _ _ ?_)
        refine CW.seq fun K15 hK15 => ?_
        refine CW.block ?_
        refine CW.seq fun K16 hK16 => ?_
        refine CW.region ?_
        refine LW.pure rfl rfl (RV.move rfl) ?_
        refine LW.pure rfl rfl (RV.assign rfl) ?_
        refine LW.nil (hK16 _ _ ?_)
        refine CW.seq fun K17 hK17 => ?_
        refine CW.region ?_
        refine LW.pure rfl rfl (RV.move rfl) ?_
        refine LW.pure rfl rfl (RV.move rfl) ?_
        have hb1 : 0 ≤ ((↑j) : Int) ∧ ((↑j) : Int) < ((((tables c).1).length : Nat) : Int) := by omega
        obtain ⟨x1, hx1⟩ := ex_at (l := ((tables c).1)) (j := j) (by first | omega | (simp; omega))
        have hlx1 := hT.sq.rowAt hx1
        obtain ⟨B1, e1, hh1⟩ := (H.tab 1 rfl).hd hx1
        refine LW.pure rfl rfl (RV.indexAddr s69 rfl rfl hb1 ((H.tab 1 rfl).addr_ hx1)) ?_
        refine LW.pure rfl rfl (RV.load1 k76 rfl ((H.tab 1 rfl).cell hx1 hh1) rfl) ?_
        refine LW.pure rfl rfl (RV.move rfl) ?_
        have hb2 : 0 ≤ ((a) : Int) ∧ ((a) : Int) < ((x1.length : Nat) : Int) := by omega
        obtain ⟨x2, hx2⟩ := ex_at (l := x1) (j := Int.toNat a) (by first | omega | (simp; omega))
        have hmx2 := mg_of hx1 hx2
        have hmt : mg (table c) j (Int.toNat a) = x2 := by rw [← hte]; exact hmx2
        have hbd := hT.bnd (Int.toNat a) j (by omega) (by omega)
        have hbe := hT.bnd j (Int.toNat a) (by omega) (by omega)
        rw [hte] at hbd hbe
        try rw [hmt] at hbd
        try rw [hmt] at hbe
        refine LW.pure rfl rfl (RV.indexAddr s76 rfl rfl hb2 (((H.tab 1 rfl).rowO hx1 hh1).sl.addr_ hx2)) ?_
        refine LW.pure rfl rfl (RV.loadA [.bool x2.known, .int .i64 x2.most] k75 rfl (((H.tab 1 rfl).rowO hx1 hh1).sl.at_ hx2) rfl rfl) ?_
        refine LW.go rfl rfl (OW.alloc z75 fun b3 w5 N3 => ?_)
        replace H : Hp w w5 [.blk b3 75 [.bool false, .int .i64 0], .own AL1_9 cL1_9 84 2 (List.map encMk (((List.range j).map fun b => mkE (mg (table c) b (Int.toNat a))))), .tab A2_0 c2_0 76 hs2_0 75 2 (encM encT (((tables c).1))), .own (some ⟨b2, 0, none⟩) 1 3 1 (List.map encI (([a] : List Int))), .blk b1 24 [.int .i64 c.layers, .slice A_c_bounds c.bounds.length c_c_bounds]] := H.new N3 N3.blk
        replace R0 := H.ext
        refine LW.go rfl rfl (OW.store k75 rfl rfl (H.blk 0 rfl) (off := 0) (vs := [.bool x2.known, .int .i64 x2.most]) rfl rfl rfl rfl rfl fun w6 S1 => ?_)
        replace H : Hp w w6 [.blk b3 75 [.bool x2.known, .int .i64 x2.most], .own AL1_9 cL1_9 84 2 (List.map encMk (((List.range j).map fun b => mkE (mg (table c) b (Int.toNat a))))), .tab A2_0 c2_0 76 hs2_0 75 2 (encM encT (((tables c).1))), .own (some ⟨b2, 0, none⟩) 1 3 1 (List.map encI (([a] : List Int))), .blk b1 24 [.int .i64 c.layers, .slice A_c_bounds c.bounds.length c_c_bounds]] := H.stored 0 rfl S1
        replace R0 := H.ext
        refine LW.nil (hK17 _ _ ?_)
        refine CW.seq fun K18 hK18 => ?_
        refine CW.seq fun K19 hK19 => ?_
        refine CW.region ?_
        refine LW.pure rfl rfl (RV.fieldAddr f75_0 rfl) ?_
        refine LW.pure rfl rfl (RV.load1 k4 rfl ((H.blk 0 rfl).cells.off 0) rfl) ?_
        refine LW.pure rfl rfl (RV.not rfl) ?_
        refine LW.nil (hK19 _ _ ?_)
        refine CW.cond rfl (fun h4 => ?_) (fun h4 => ?_)
        ·
          have h4 := (Bool.not_eq_true' _).mp h4
          refine CW.region ?_
          refine LW.pure rfl rfl (RV.fieldAddr f75_1 rfl) ?_
          refine LW.go rfl rfl (OW.store k3 rfl rfl (H.blk 0 rfl) (off := 1) (vs := [.int .i64 0]) rfl rfl rfl rfl rfl fun w7 S2 => ?_)
          replace H : Hp w w7 [.blk b3 75 [.bool x2.known, .int .i64 0], .own AL1_9 cL1_9 84 2 (List.map encMk (((List.range j).map fun b => mkE (mg (table c) b (Int.toNat a))))), .tab A2_0 c2_0 76 hs2_0 75 2 (encM encT (((tables c).1))), .own (some ⟨b2, 0, none⟩) 1 3 1 (List.map encI (([a] : List Int))), .blk b1 24 [.int .i64 c.layers, .slice A_c_bounds c.bounds.length c_c_bounds]] := H.stored 0 rfl S2
          replace R0 := H.ext
          refine LW.nil (hK18 _ _ ?_)
          refine CW.region ?_
          refine LW.pure rfl rfl (RV.move rfl) ?_
          refine LW.pure rfl rfl (RV.fieldAddr f75_0 rfl) ?_
          refine LW.pure rfl rfl (RV.load1 k4 rfl ((H.blk 0 rfl).cells.off 0) rfl) ?_
          refine LW.pure rfl rfl (RV.fieldAddr f75_1 rfl) ?_
          refine LW.pure rfl rfl (RV.load1 k3 rfl ((H.blk 0 rfl).cells.off 1) rfl) ?_
          refine LW.pure rfl rfl (RV.neg rfl (by omega)) ?_
          refine LW.pure rfl rfl (RV.build (vs := [.bool x2.known, .int .i64 (-0)]) (cs := [.bool x2.known, .int .i64 (-0)]) rfl (fun _ => by kernel_rfl)) ?_
          refine LW.go rfl rfl (OW.buildSlice (e := 84) (vs := [.agg #[.bool x2.known, .int .i64 (-0)]]) (cs := [.bool x2.known, .int .i64 (-0)]) rfl (fun _ => by kernel_rfl) fun b4 w8 N4 => ?_)
          replace H : Hp w w8 [.own (some ⟨b4, 0, none⟩) 1 84 2 (List.map encMk (([(⟨x2.known, -0⟩ : Mark)] : List Mark))), .blk b3 75 [.bool x2.known, .int .i64 0], .own AL1_9 cL1_9 84 2 (List.map encMk (((List.range j).map fun b => mkE (mg (table c) b (Int.toNat a))))), .tab A2_0 c2_0 76 hs2_0 75 2 (encM encT (((tables c).1))), .own (some ⟨b2, 0, none⟩) 1 3 1 (List.map encI (([a] : List Int))), .blk b1 24 [.int .i64 c.layers, .slice A_c_bounds c.bounds.length c_c_bounds]] := H.made' (enc := encMk) (l := ([(⟨x2.known, -0⟩ : Mark)] : List Mark)) N4 N4.blk (fun _ => rfl) (by simp) (by first | decide | omega | simp)
          replace R0 := H.ext
          refine LW.go rfl rfl (OW.appendL (enc := encMk) (l := ((List.range j).map fun b => mkE (mg (table c) b (Int.toNat a)))) (xs := ([(⟨x2.known, -0⟩ : Mark)] : List Mark)) s38 rfl rfl (H.own 2 rfl) (H.own 0 rfl).sl (fun _ => rfl) rfl rfl (by first | omega | (simp; omega)) (by first | omega | (simp; omega)) fun A1 c1 w9 O1 M1 D1 => ?_)
          replace H : Hp w w9 [.own (some ⟨b4, 0, none⟩) 1 84 2 (List.map encMk (([(⟨x2.known, -0⟩ : Mark)] : List Mark))), .blk b3 75 [.bool x2.known, .int .i64 0], .own A1 c1 84 2 (List.map encMk ((((List.range j).map fun b => mkE (mg (table c) b (Int.toNat a))) ++ ([(⟨x2.known, -0⟩ : Mark)] : List Mark)))), .tab A2_0 c2_0 76 hs2_0 75 2 (encM encT (((tables c).1))), .own (some ⟨b2, 0, none⟩) 1 3 1 (List.map encI (([a] : List Int))), .blk b1 24 [.int .i64 c.layers, .slice A_c_bounds c.bounds.length c_c_bounds]] := H.mod 2 rfl M1 O1 D1
          replace R0 := H.ext
          refine LW.pure rfl rfl (RV.assign rfl) ?_
          refine LW.nil (hK15 _ _ ?_)
          refine CW.region ?_
          refine LW.pure rfl rfl (RV.add rfl rfl (by omega)) ?_
          refine LW.pure rfl rfl (RV.move rfl) ?_
          refine LW.nil ?_
          replace H : Hp w w9 [.own A1 c1 84 2 (List.map encMk ((((List.range j).map fun b => mkE (mg (table c) b (Int.toNat a))) ++ ([(⟨x2.known, -0⟩ : Mark)] : List Mark)))), .tab A2_0 c2_0 76 hs2_0 75 2 (encM encT (((tables c).1))), .own (some ⟨b2, 0, none⟩) 1 3 1 (List.map encI (([a] : List Int))), .blk b1 24 [.int .i64 c.layers, .slice A_c_bounds c.bounds.length c_c_bounds]] := H.pick [2, 3, 4, 5] (by decide) rfl
          replace R0 := H.ext
          refine ⟨_, ?_, _, ?_, j + 1, A1, c1, rfl, rfl, ?_, ?_⟩
          · omega
          · exact ⟨rfl, rfl, rfl, rfl, look_slice rfl (by first | rfl | omega | (simp; done)), rfl, look_int rfl (by first | rfl | omega | (simp; omega)), trivial⟩
          · rw [List.range_succ, List.map_append]; simp only [List.map_cons, List.map_nil]; rw [hmt]; first | (rw [show mkE x2 = ⟨x2.known, -x2.most⟩ by simp [mkE, h4]]; exact H) | (rw [show mkE x2 = ⟨x2.known, -0⟩ by simp [mkE, h4]]; exact H)
          · omega
        ·
          have h4 := (Bool.not_eq_false' _).mp h4
          refine CW.skip (hK18 _ _ ?_)
          refine CW.region ?_
          refine LW.pure rfl rfl (RV.move rfl) ?_
          refine LW.pure rfl rfl (RV.fieldAddr f75_0 rfl) ?_
          refine LW.pure rfl rfl (RV.load1 k4 rfl ((H.blk 0 rfl).cells.off 0) rfl) ?_
          refine LW.pure rfl rfl (RV.fieldAddr f75_1 rfl) ?_
          refine LW.pure rfl rfl (RV.load1 k3 rfl ((H.blk 0 rfl).cells.off 1) rfl) ?_
          refine LW.pure rfl rfl (RV.neg rfl (by omega)) ?_
          refine LW.pure rfl rfl (RV.build (vs := [.bool x2.known, .int .i64 (-x2.most)]) (cs := [.bool x2.known, .int .i64 (-x2.most)]) rfl (fun _ => by kernel_rfl)) ?_
          refine LW.go rfl rfl (OW.buildSlice (e := 84) (vs := [.agg #[.bool x2.known, .int .i64 (-x2.most)]]) (cs := [.bool x2.known, .int .i64 (-x2.most)]) rfl (fun _ => by kernel_rfl) fun b5 w10 N5 => ?_)
          replace H : Hp w w10 [.own (some ⟨b5, 0, none⟩) 1 84 2 (List.map encMk (([(⟨x2.known, -x2.most⟩ : Mark)] : List Mark))), .blk b3 75 [.bool x2.known, .int .i64 x2.most], .own AL1_9 cL1_9 84 2 (List.map encMk (((List.range j).map fun b => mkE (mg (table c) b (Int.toNat a))))), .tab A2_0 c2_0 76 hs2_0 75 2 (encM encT (((tables c).1))), .own (some ⟨b2, 0, none⟩) 1 3 1 (List.map encI (([a] : List Int))), .blk b1 24 [.int .i64 c.layers, .slice A_c_bounds c.bounds.length c_c_bounds]] := H.made' (enc := encMk) (l := ([(⟨x2.known, -x2.most⟩ : Mark)] : List Mark)) N5 N5.blk (fun _ => rfl) (by simp) (by first | decide | omega | simp)
          replace R0 := H.ext
          refine LW.go rfl rfl (OW.appendL (enc := encMk) (l := ((List.range j).map fun b => mkE (mg (table c) b (Int.toNat a)))) (xs := ([(⟨x2.known, -x2.most⟩ : Mark)] : List Mark)) s38 rfl rfl (H.own 2 rfl) (H.own 0 rfl).sl (fun _ => rfl) rfl rfl (by first | omega | (simp; omega)) (by first | omega | (simp; omega)) fun A2 c2 w11 O2 M2 D2 => ?_)
          replace H : Hp w w11 [.own (some ⟨b5, 0, none⟩) 1 84 2 (List.map encMk (([(⟨x2.known, -x2.most⟩ : Mark)] : List Mark))), .blk b3 75 [.bool x2.known, .int .i64 x2.most], .own A2 c2 84 2 (List.map encMk ((((List.range j).map fun b => mkE (mg (table c) b (Int.toNat a))) ++ ([(⟨x2.known, -x2.most⟩ : Mark)] : List Mark)))), .tab A2_0 c2_0 76 hs2_0 75 2 (encM encT (((tables c).1))), .own (some ⟨b2, 0, none⟩) 1 3 1 (List.map encI (([a] : List Int))), .blk b1 24 [.int .i64 c.layers, .slice A_c_bounds c.bounds.length c_c_bounds]] := H.mod 2 rfl M2 O2 D2
          replace R0 := H.ext
          refine LW.pure rfl rfl (RV.assign rfl) ?_
          refine LW.nil (hK15 _ _ ?_)
          refine CW.region ?_
          refine LW.pure rfl rfl (RV.add rfl rfl (by omega)) ?_
          refine LW.pure rfl rfl (RV.move rfl) ?_
          refine LW.nil ?_
          replace H : Hp w w11 [.own A2 c2 84 2 (List.map encMk ((((List.range j).map fun b => mkE (mg (table c) b (Int.toNat a))) ++ ([(⟨x2.known, -x2.most⟩ : Mark)] : List Mark)))), .tab A2_0 c2_0 76 hs2_0 75 2 (encM encT (((tables c).1))), .own (some ⟨b2, 0, none⟩) 1 3 1 (List.map encI (([a] : List Int))), .blk b1 24 [.int .i64 c.layers, .slice A_c_bounds c.bounds.length c_c_bounds]] := H.pick [2, 3, 4, 5] (by decide) rfl
          replace R0 := H.ext
          refine ⟨_, ?_, _, ?_, j + 1, A2, c2, rfl, rfl, ?_, ?_⟩
          · omega
          · exact ⟨rfl, rfl, rfl, rfl, look_slice rfl (by first | rfl | omega | (simp; done)), rfl, look_int rfl (by first | rfl | omega | (simp; omega)), trivial⟩
          · rw [List.range_succ, List.map_append]; simp only [List.map_cons, List.map_nil]; rw [hmt]; first | (rw [show mkE x2 = ⟨x2.known, -x2.most⟩ by simp [mkE, h4]]; exact H) | (rw [show mkE x2 = ⟨x2.known, -0⟩ by simp [mkE, h4]]; exact H)
          · omega
      ·
        have h3 := of_decide_eq_false h3
        refine CW.exit (hK11 _ _ ?_)
        refine CW.seq fun K20 hK20 => ?_
        refine CW.region ?_
        refine LW.pure rfl rfl (RV.move rfl) ?_
        refine LW.pure rfl rfl (RV.assign rfl) ?_
        refine LW.pure rfl rfl (RV.assign rfl) ?_
        refine LW.nil (hK20 _ _ ?_)
        refine CW.ret ?_
        refine ⟨_, (ResOK.two rfl rfl), ?_⟩
        replace H : Hp w wl1 [.own AL1_9 cL1_9 84 2 (List.map encMk (((List.range j).map fun b => mkE (mg (table c) b (Int.toNat a)))))] := H.pick [0] (by decide) rfl
        replace R0 := H.ext
        have e : j = Int.toNat c.layers := by omega
        subst e
        rw [show earliest c a = ((List.range (Int.toNat c.layers)).map fun b => mkE (mg (table c) b (Int.toNat a)), 0) by simp [earliest, h1, hcl]]
        refine ⟨AL1_9, cL1_9, rfl, ?_⟩
        · exact H

end Go.Core
