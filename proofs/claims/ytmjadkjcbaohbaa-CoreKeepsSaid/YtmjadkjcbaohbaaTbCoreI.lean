/- Lemmas and walks that the proof of this claim uses: TbCoreI. -/
import Derived.Test.YtmjadkjcbaohbaaTbCoreH
import Derived.Test.YtmjadkjcbaohbaaTb13
import Derived.Test.YtmjadkjcbaohbaaProg
import Derived.KernelRfl
namespace Go.Core
open Go.Tb Go.Proofs
set_option linter.unusedVariables false
set_option linter.unusedSimpArgs false

theorem e84g : Try.prog.eqGuardType Try.prog.depth 84 = false := by kernel_rfl
theorem e84 (a0 : Bool) (a1 : Int) (b0 : Bool) (b1 : Int) (w : World) : (Op.equalIn 10000 84 (.agg #[.bool a0, .int .i64 a1]) (.agg #[.bool b0, .int .i64 b1])).run Try.prog w = .ok ((a0 == b0) && (a1 == b1)) w := by
  rw [run_equalIn_agg w 9999 84 _ _ (by kernel_rfl) (by kernel_rfl)]
  simp [Program.fieldsOf, Try.underlying84, Op.eqFields, go_sem]
  by_cases h0 : a0 = b0 <;> by_cases h1 : a1 = b1 <;> simp [h0, h1]
theorem f84_0 : tyF Try.prog 84 0 = some 0 := by kernel_rfl
theorem f84_1 : tyF Try.prog 84 1 = some 1 := by kernel_rfl
theorem k84 : tyK Try.prog 84 = some (true, 2) := by kernel_rfl
theorem z84 : tyZ Try.prog 84 = some (.agg #[.bool false, .int .i64 0]) := by kernel_rfl


set_option maxRecDepth 20000 in
theorem ref_Latest {c : Core} {A_c_bounds : Option Addr} {c_c_bounds : Nat} {a : Int} {w : World} (h_c_bounds : Sl w A_c_bounds c_c_bounds 3 (c.bounds.map encB)) : Calls Try.prog 26 #[.agg #[.int .i64 c.layers, .slice A_c_bounds c.bounds.length c_c_bounds], .int .i64 a] w (fun e w' => ∃ (A0 : Option Addr) (c0 : Nat), e = .returned (.tuple #[.slice A0 (((rlatest c a).1).length) c0, .int .i64 ((rlatest c a).2)]) ∧ Hp w w' [.own A0 c0 84 2 (List.map encMk (((rlatest c a).1)))]) := by
  refine calls_of_cw (args := [.agg #[.int .i64 c.layers, .slice A_c_bounds c.bounds.length c_c_bounds], .int .i64 a]) Try.func26 rfl rfl rfl rfl ?_
  have H := Hp.start w
  have R0 := H.ext
  refine CW.seq fun K1 hK1 => ?_
  refine CW.region ?_
  refine LW.go rfl rfl (OW.box rfl fun b1 w1 N1 => ?_)
  replace H : Hp w w1 [.blk b1 24 [.int .i64 c.layers, .slice A_c_bounds c.bounds.length c_c_bounds]] := H.new N1 N1.blk
  replace R0 := H.ext
  refine LW.pure rfl rfl (RV.assign rfl) ?_
  refine LW.pure rfl rfl (RV.assign rfl) ?_
  refine LW.nil (hK1 _ _ ?_)
  refine CW.seq fun K2 hK2 => ?_
  refine CW.seq fun K3 hK3 => ?_
  refine CW.region ?_
  refine LW.pure rfl rfl (RV.loadA [.int .i64 c.layers, .slice A_c_bounds c.bounds.length c_c_bounds] k24 rfl (H.blk 0 rfl).cells rfl rfl) ?_
  refine LW.pure rfl rfl (RV.move rfl) ?_
  refine LW.pure rfl rfl (RV.move rfl) ?_
  refine LW.go rfl rfl (OW.call c64 rfl (ref_layered (c := c) (a := a) (b := a) (h_c_bounds.ext R0)) ?_)
  rintro _ w2 ⟨rfl, E1⟩
  refine ⟨_, rfl, ?_⟩
  replace H := H.grow E1
  replace R0 := H.ext
  refine LW.pure rfl rfl (RV.assign rfl) ?_
  refine LW.nil (hK3 _ _ ?_)
  refine CW.seq fun K4 hK4 => ?_
  refine CW.region ?_
  refine LW.pure rfl rfl (RV.move rfl) ?_
  refine LW.pure rfl rfl (RV.nei rfl rfl) ?_
  refine LW.nil (hK4 _ _ ?_)
  refine CW.cond rfl (fun h1 => ?_) (fun h1 => ?_)
  ·
    have h1 := (Bool.not_eq_true' _).mp h1
    have h1 := of_decide_eq_false h1
    refine CW.seq fun K5 hK5 => ?_
    refine CW.region ?_
    refine LW.pure rfl rfl (RV.move rfl) ?_
    refine LW.pure rfl rfl (RV.assign rfl) ?_
    refine LW.pure rfl rfl (RV.assign rfl) ?_
    refine LW.nil (hK5 _ _ ?_)
    refine CW.ret ?_
    refine ⟨_, (ResOK.two rfl rfl), ?_⟩
    replace H : Hp w w2 [.own none 0 84 2 (List.map encMk (([] : List Mark))), .blk b1 24 [.int .i64 c.layers, .slice A_c_bounds c.bounds.length c_c_bounds]] := H.nilOwn 84 2
    replace R0 := H.ext
    replace H : Hp w w2 [.own none 0 84 2 (List.map encMk (([] : List Mark)))] := H.pick [0] (by decide) rfl
    replace R0 := H.ext
    rw [show rlatest c a = ([], layered c a a) by simp [rlatest, h1]]
    refine ⟨none, 0, rfl, ?_⟩
    · exact H
  ·
    have h1 := (Bool.not_eq_false' _).mp h1
    have h1 := of_decide_eq_true h1
    have h1e := layered_ok h1
    have hvo := validate_ok h1e.1
    have hsl := wsT_len c (Int.toNat c.layers) (Int.toNat c.layers)
    have hkl := wkT_len c (Int.toNat c.layers) (Int.toNat c.layers)
    refine CW.skip (hK2 _ _ ?_)
    refine CW.seq fun K6 hK6 => ?_
    refine CW.region ?_
    refine LW.pure rfl rfl (RV.loadA [.int .i64 c.layers, .slice A_c_bounds c.bounds.length c_c_bounds] k24 rfl (H.blk 0 rfl).cells rfl rfl) ?_
    refine LW.pure rfl rfl (RV.fieldAddr f24_0 rfl) ?_
    refine LW.pure rfl rfl (RV.load1 k3 rfl ((H.blk 0 rfl).cells.off 0) rfl) ?_
    refine LW.go rfl rfl (OW.call c65 rfl (ref_walks (c := c) (k := c.layers) (h_c_bounds.ext R0) (h1e.1) (by omega)) ?_)
    rintro _ w3 ⟨A2_0, c2_0, hs2_0, A2_1, c2_1, hs2_1, rfl, E2⟩
    refine ⟨_, rfl, ?_⟩
    replace H : Hp w w3 [.tab A2_0 c2_0 43 hs2_0 3 1 (encM encI ((wsT c (Int.toNat c.layers) (Int.toNat c.layers)))), .tab A2_1 c2_1 81 hs2_1 4 1 (encM encBo ((wkT c (Int.toNat c.layers) (Int.toNat c.layers)))), .blk b1 24 [.int .i64 c.layers, .slice A_c_bounds c.bounds.length c_c_bounds]] := H.append E2
    replace R0 := H.ext
    refine LW.pure rfl rfl (RV.move rfl) ?_
    refine LW.pure rfl rfl (RV.extract rfl rfl) ?_
    refine LW.pure rfl rfl (RV.extract rfl rfl) ?_
    refine LW.pure rfl rfl (RV.assign rfl) ?_
    refine LW.pure rfl rfl (RV.assign rfl) ?_
    refine LW.nil (hK6 _ _ ?_)
    refine CW.seq fun K7 hK7 => ?_
    refine CW.region ?_
    refine LW.pure rfl rfl (RV.assign rfl) ?_
    refine LW.nil (hK7 _ _ ?_)
    refine CW.seq fun K8 hK8 => ?_
    refine CW.seq fun K9 hK9 => ?_
    refine CW.region ?_
    refine LW.pure rfl rfl (RV.assign rfl) ?_
    refine LW.nil (hK9 _ _ ?_)
    refine CW.block ?_
    replace H : Hp w w3 [.own none 0 84 2 (List.map encMk (([] : List Mark))), .tab A2_0 c2_0 43 hs2_0 3 1 (encM encI ((wsT c (Int.toNat c.layers) (Int.toNat c.layers)))), .tab A2_1 c2_1 81 hs2_1 4 1 (encM encBo ((wkT c (Int.toNat c.layers) (Int.toNat c.layers)))), .blk b1 24 [.int .i64 c.layers, .slice A_c_bounds c.bounds.length c_c_bounds]] := H.nilOwn 84 2
    replace R0 := H.ext
    refine CW.loop (fun meas ρ wl1 => ∃ (j : Nat) (AL1_9 : Option Addr) (cL1_9 : Nat), meas = Int.toNat c.layers - j ∧ ρ = [(1, .int .i64 a), (2, .pointer (some (⟨b1, 0, none⟩))), (4, .slice none 0 0), (5, .int .i64 0), (7, .slice A2_0 ((wsT c (Int.toNat c.layers) (Int.toNat c.layers)).length) c2_0), (8, .slice A2_1 ((wkT c (Int.toNat c.layers) (Int.toNat c.layers)).length) c2_1), (9, .slice AL1_9 ((((List.range j).map (rmL c (Int.toNat a)))).length) cL1_9), (10, .int .i64 (↑j))] ∧ Hp w wl1 [.own AL1_9 cL1_9 84 2 (List.map encMk (((List.range j).map (rmL c (Int.toNat a))))), .tab A2_0 c2_0 43 hs2_0 3 1 (encM encI ((wsT c (Int.toNat c.layers) (Int.toNat c.layers)))), .tab A2_1 c2_1 81 hs2_1 4 1 (encM encBo ((wkT c (Int.toNat c.layers) (Int.toNat c.layers)))), .blk b1 24 [.int .i64 c.layers, .slice A_c_bounds c.bounds.length c_c_bounds]] ∧ (j ≤ Int.toNat c.layers)) (Int.toNat c.layers - 0) ⟨_, ?_, 0, none, 0, rfl, rfl, ?_, ?_⟩ ?_
    · exact ⟨rfl, rfl, rfl, rfl, rfl, rfl, look_slice rfl (by first | rfl | omega | (simp; done)), look_int rfl (by first | rfl | omega | (simp; omega)), trivial⟩
    · exact H
    · omega
    rintro _ _ wl1 ⟨j, AL1_9, cL1_9, rfl, rfl, H, hI1⟩
    have R0 := H.ext
    have hP := wN_inv' h1e.1 (Int.toNat a) (k := Int.toNat c.layers) (by omega)
    have hP1 := hP.l1
    have hP2 := hP.l2
    refine CW.seq fun K10 hK10 => ?_
    refine CW.seq fun K11 hK11 => ?_
    refine CW.region ?_
    refine LW.pure rfl rfl (RV.move rfl) ?_
    refine LW.pure rfl rfl (RV.fieldAddr f24_0 rfl) ?_
    refine LW.pure rfl rfl (RV.load1 k3 rfl ((H.blk 3 rfl).cells.off 0) rfl) ?_
    refine LW.pure rfl rfl (RV.lss rfl rfl) ?_
    refine LW.nil (hK11 _ _ ?_)
    refine CW.cond rfl (fun h2 => ?_) (fun h2 => ?_)
    ·
      have h2 := of_decide_eq_true h2
      refine CW.skip (hK10 _ _ ?_)
      refine CW.seq fun K12 hK12 => ?_
      refine CW.block ?_
      refine CW.seq fun K13 hK13 => ?_
      refine CW.region ?_
      refine LW.pure rfl rfl (RV.move rfl) ?_
      refine LW.pure rfl rfl (RV.move rfl) ?_
      have hb1 : 0 ≤ ((a) : Int) ∧ ((a) : Int) < (((wkT c (Int.toNat c.layers) (Int.toNat c.layers)).length : Nat) : Int) := by omega
      have kx1 : ((wkT c (Int.toNat c.layers) (Int.toNat c.layers)))[Int.toNat a]? = some ((wN c (Int.toNat a) (Int.toNat c.layers)).2) := wkT_at c (Int.toNat c.layers) (Int.toNat c.layers) (Nat.le_refl _) (Int.toNat a) (by omega)
      obtain ⟨B1, e1, hh1⟩ := (H.tab 2 rfl).hd kx1
      refine LW.pure rfl rfl (RV.indexAddr s78 rfl rfl hb1 ((H.tab 2 rfl).addr_ kx1)) ?_
      refine LW.pure rfl rfl (RV.load1 k81 rfl ((H.tab 2 rfl).cell kx1 hh1) rfl) ?_
      refine LW.pure rfl rfl (RV.move rfl) ?_
      have hb2 : 0 ≤ ((↑j) : Int) ∧ ((↑j) : Int) < ((((wN c (Int.toNat a) (Int.toNat c.layers)).2).length : Nat) : Int) := by omega
      obtain ⟨x1, hx1⟩ := ex_at (l := (wN c (Int.toNat a) (Int.toNat c.layers)).2) (j := j) (by first | omega | (simp; omega))
      have hqx1 := kn_of hx1
      refine LW.pure rfl rfl (RV.indexAddr s81 rfl rfl hb2 (((H.tab 2 rfl).rowO kx1 hh1).sl.addr_ hx1)) ?_
      refine LW.pure rfl rfl (RV.load1 k4 rfl (((H.tab 2 rfl).rowO kx1 hh1).sl.at_ hx1) rfl) ?_
      refine LW.pure rfl rfl (RV.build (vs := [.bool x1]) (cs := [.bool x1, .int .i64 0]) rfl (fun _ => by kernel_rfl)) ?_
      refine LW.go rfl rfl (OW.alloc z84 fun b2 w4 N2 => ?_)
      replace H : Hp w w4 [.blk b2 84 [.bool false, .int .i64 0], .own AL1_9 cL1_9 84 2 (List.map encMk (((List.range j).map (rmL c (Int.toNat a))))), .tab A2_0 c2_0 43 hs2_0 3 1 (encM encI ((wsT c (Int.toNat c.layers) (Int.toNat c.layers)))), .tab A2_1 c2_1 81 hs2_1 4 1 (encM encBo ((wkT c (Int.toNat c.layers) (Int.toNat c.layers)))), .blk b1 24 [.int .i64 c.layers, .slice A_c_bounds c.bounds.length c_c_bounds]] := H.new N2 N2.blk
      replace R0 := H.ext
      refine LW.go rfl rfl (OW.store k84 rfl rfl (H.blk 0 rfl) (off := 0) (vs := [.bool x1, .int .i64 0]) rfl rfl rfl rfl rfl fun w5 S1 => ?_)
      replace H : Hp w w5 [.blk b2 84 [.bool x1, .int .i64 0], .own AL1_9 cL1_9 84 2 (List.map encMk (((List.range j).map (rmL c (Int.toNat a))))), .tab A2_0 c2_0 43 hs2_0 3 1 (encM encI ((wsT c (Int.toNat c.layers) (Int.toNat c.layers)))), .tab A2_1 c2_1 81 hs2_1 4 1 (encM encBo ((wkT c (Int.toNat c.layers) (Int.toNat c.layers)))), .blk b1 24 [.int .i64 c.layers, .slice A_c_bounds c.bounds.length c_c_bounds]] := H.stored 0 rfl S1
      replace R0 := H.ext
      refine LW.nil (hK13 _ _ ?_)
      refine CW.seq fun K14 hK14 => ?_
      refine CW.seq fun K15 hK15 => ?_
      refine CW.region ?_
      refine LW.pure rfl rfl (RV.fieldAddr f84_0 rfl) ?_
      refine LW.pure rfl rfl (RV.load1 k4 rfl ((H.blk 0 rfl).cells.off 0) rfl) ?_
      refine LW.nil (hK15 _ _ ?_)
      refine CW.cond rfl (fun h3 => ?_) (fun h3 => ?_)
      ·
        refine CW.region ?_
        refine LW.pure rfl rfl (RV.move rfl) ?_
        refine LW.pure rfl rfl (RV.move rfl) ?_
        have hb3 : 0 ≤ ((a) : Int) ∧ ((a) : Int) < (((wsT c (Int.toNat c.layers) (Int.toNat c.layers)).length : Nat) : Int) := by omega
        have kx2 : ((wsT c (Int.toNat c.layers) (Int.toNat c.layers)))[Int.toNat a]? = some ((wN c (Int.toNat a) (Int.toNat c.layers)).1) := wsT_at c (Int.toNat c.layers) (Int.toNat c.layers) (Nat.le_refl _) (Int.toNat a) (by omega)
        obtain ⟨B2, e2, hh2⟩ := (H.tab 2 rfl).hd kx2
        refine LW.pure rfl rfl (RV.indexAddr s58 rfl rfl hb3 ((H.tab 2 rfl).addr_ kx2)) ?_
        refine LW.pure rfl rfl (RV.load1 k43 rfl ((H.tab 2 rfl).cell kx2 hh2) rfl) ?_
        refine LW.pure rfl rfl (RV.move rfl) ?_
        have hb4 : 0 ≤ ((↑j) : Int) ∧ ((↑j) : Int) < ((((wN c (Int.toNat a) (Int.toNat c.layers)).1).length : Nat) : Int) := by omega
        obtain ⟨x2, hx2⟩ := ex_at (l := (wN c (Int.toNat a) (Int.toNat c.layers)).1) (j := j) (by first | omega | (simp; omega))
        have hqx2 := sm_of hx2
        have hdd := hP.at_ hx2
        refine LW.pure rfl rfl (RV.indexAddr s43 rfl rfl hb4 (((H.tab 2 rfl).rowO kx2 hh2).sl.addr_ hx2)) ?_
        refine LW.pure rfl rfl (RV.load1 k3 rfl (((H.tab 2 rfl).rowO kx2 hh2).sl.at_ hx2) rfl) ?_
        refine LW.pure rfl rfl (RV.fieldAddr f84_1 rfl) ?_
        refine LW.go rfl rfl (OW.store k3 rfl rfl (H.blk 0 rfl) (off := 1) (vs := [.int .i64 x2]) rfl rfl rfl rfl rfl fun w6 S2 => ?_)
        replace H : Hp w w6 [.blk b2 84 [.bool x1, .int .i64 x2], .own AL1_9 cL1_9 84 2 (List.map encMk (((List.range j).map (rmL c (Int.toNat a))))), .tab A2_0 c2_0 43 hs2_0 3 1 (encM encI ((wsT c (Int.toNat c.layers) (Int.toNat c.layers)))), .tab A2_1 c2_1 81 hs2_1 4 1 (encM encBo ((wkT c (Int.toNat c.layers) (Int.toNat c.layers)))), .blk b1 24 [.int .i64 c.layers, .slice A_c_bounds c.bounds.length c_c_bounds]] := H.stored 0 rfl S2
        replace R0 := H.ext
        refine LW.nil (hK14 _ _ ?_)
        refine CW.region ?_
        refine LW.pure rfl rfl (RV.move rfl) ?_
        refine LW.pure rfl rfl (RV.loadA [.bool x1, .int .i64 x2] k84 rfl (H.blk 0 rfl).cells rfl rfl) ?_
        refine LW.go rfl rfl (OW.buildSlice (e := 84) (vs := [.agg #[.bool x1, .int .i64 x2]]) (cs := [.bool x1, .int .i64 x2]) rfl (fun _ => by kernel_rfl) fun b3 w7 N3 => ?_)
        replace H : Hp w w7 [.own (some ⟨b3, 0, none⟩) 1 84 2 (List.map encMk (([(⟨x1, x2⟩ : Mark)] : List Mark))), .blk b2 84 [.bool x1, .int .i64 x2], .own AL1_9 cL1_9 84 2 (List.map encMk (((List.range j).map (rmL c (Int.toNat a))))), .tab A2_0 c2_0 43 hs2_0 3 1 (encM encI ((wsT c (Int.toNat c.layers) (Int.toNat c.layers)))), .tab A2_1 c2_1 81 hs2_1 4 1 (encM encBo ((wkT c (Int.toNat c.layers) (Int.toNat c.layers)))), .blk b1 24 [.int .i64 c.layers, .slice A_c_bounds c.bounds.length c_c_bounds]] := H.made' (enc := encMk) (l := ([(⟨x1, x2⟩ : Mark)] : List Mark)) N3 N3.blk (fun _ => rfl) (by simp) (by first | decide | omega | simp)
        replace R0 := H.ext
        refine LW.go rfl rfl (OW.appendL (enc := encMk) (l := ((List.range j).map (rmL c (Int.toNat a)))) (xs := ([(⟨x1, x2⟩ : Mark)] : List Mark)) s38 rfl rfl (H.own 2 rfl) (H.own 0 rfl).sl (fun _ => rfl) rfl rfl (by first | omega | (simp; omega)) (by first | omega | (simp; omega)) fun A1 c1 w8 O1 M1 D1 => ?_)
        replace H : Hp w w8 [.own (some ⟨b3, 0, none⟩) 1 84 2 (List.map encMk (([(⟨x1, x2⟩ : Mark)] : List Mark))), .blk b2 84 [.bool x1, .int .i64 x2], .own A1 c1 84 2 (List.map encMk ((((List.range j).map (rmL c (Int.toNat a))) ++ ([(⟨x1, x2⟩ : Mark)] : List Mark)))), .tab A2_0 c2_0 43 hs2_0 3 1 (encM encI ((wsT c (Int.toNat c.layers) (Int.toNat c.layers)))), .tab A2_1 c2_1 81 hs2_1 4 1 (encM encBo ((wkT c (Int.toNat c.layers) (Int.toNat c.layers)))), .blk b1 24 [.int .i64 c.layers, .slice A_c_bounds c.bounds.length c_c_bounds]] := H.mod 2 rfl M1 O1 D1
        replace R0 := H.ext
        refine LW.pure rfl rfl (RV.assign rfl) ?_
        refine LW.nil (hK12 _ _ ?_)
        refine CW.region ?_
        refine LW.pure rfl rfl (RV.move rfl) ?_
        refine LW.pure rfl rfl (RV.add rfl rfl (by omega)) ?_
        refine LW.pure rfl rfl (RV.assign rfl) ?_
        refine LW.nil ?_
        replace H : Hp w w8 [.own A1 c1 84 2 (List.map encMk ((((List.range j).map (rmL c (Int.toNat a))) ++ ([(⟨x1, x2⟩ : Mark)] : List Mark)))), .tab A2_0 c2_0 43 hs2_0 3 1 (encM encI ((wsT c (Int.toNat c.layers) (Int.toNat c.layers)))), .tab A2_1 c2_1 81 hs2_1 4 1 (encM encBo ((wkT c (Int.toNat c.layers) (Int.toNat c.layers)))), .blk b1 24 [.int .i64 c.layers, .slice A_c_bounds c.bounds.length c_c_bounds]] := H.pick [2, 3, 4, 5] (by decide) rfl
        replace R0 := H.ext
        refine ⟨_, ?_, _, ?_, j + 1, A1, c1, rfl, rfl, ?_, ?_⟩
        · omega
        · exact ⟨rfl, rfl, rfl, rfl, rfl, rfl, look_slice rfl (by first | rfl | omega | (simp; done)), look_int rfl (by first | rfl | omega | (simp; omega)), trivial⟩
        · rw [List.range_succ, List.map_append]; simp only [List.map_cons, List.map_nil]; rw [show rmL c (Int.toNat a) j = ⟨_, _⟩ from rfl, hqx1, hqx2]; simp only [h3]; first | exact H | (simp [h3] at H ⊢; exact H)
        · omega
      ·
        refine CW.skip (hK14 _ _ ?_)
        refine CW.region ?_
        refine LW.pure rfl rfl (RV.move rfl) ?_
        refine LW.pure rfl rfl (RV.loadA [.bool x1, .int .i64 0] k84 rfl (H.blk 0 rfl).cells rfl rfl) ?_
        refine LW.go rfl rfl (OW.buildSlice (e := 84) (vs := [.agg #[.bool x1, .int .i64 0]]) (cs := [.bool x1, .int .i64 0]) rfl (fun _ => by kernel_rfl) fun b4 w9 N4 => ?_)
        replace H : Hp w w9 [.own (some ⟨b4, 0, none⟩) 1 84 2 (List.map encMk (([(⟨x1, 0⟩ : Mark)] : List Mark))), .blk b2 84 [.bool x1, .int .i64 0], .own AL1_9 cL1_9 84 2 (List.map encMk (((List.range j).map (rmL c (Int.toNat a))))), .tab A2_0 c2_0 43 hs2_0 3 1 (encM encI ((wsT c (Int.toNat c.layers) (Int.toNat c.layers)))), .tab A2_1 c2_1 81 hs2_1 4 1 (encM encBo ((wkT c (Int.toNat c.layers) (Int.toNat c.layers)))), .blk b1 24 [.int .i64 c.layers, .slice A_c_bounds c.bounds.length c_c_bounds]] := H.made' (enc := encMk) (l := ([(⟨x1, 0⟩ : Mark)] : List Mark)) N4 N4.blk (fun _ => rfl) (by simp) (by first | decide | omega | simp)
        replace R0 := H.ext
        refine LW.go rfl rfl (OW.appendL (enc := encMk) (l := ((List.range j).map (rmL c (Int.toNat a)))) (xs := ([(⟨x1, 0⟩ : Mark)] : List Mark)) s38 rfl rfl (H.own 2 rfl) (H.own 0 rfl).sl (fun _ => rfl) rfl rfl (by first | omega | (simp; omega)) (by first | omega | (simp; omega)) fun A2 c2 w10 O2 M2 D2 => ?_)
        replace H : Hp w w10 [.own (some ⟨b4, 0, none⟩) 1 84 2 (List.map encMk (([(⟨x1, 0⟩ : Mark)] : List Mark))), .blk b2 84 [.bool x1, .int .i64 0], .own A2 c2 84 2 (List.map encMk ((((List.range j).map (rmL c (Int.toNat a))) ++ ([(⟨x1, 0⟩ : Mark)] : List Mark)))), .tab A2_0 c2_0 43 hs2_0 3 1 (encM encI ((wsT c (Int.toNat c.layers) (Int.toNat c.layers)))), .tab A2_1 c2_1 81 hs2_1 4 1 (encM encBo ((wkT c (Int.toNat c.layers) (Int.toNat c.layers)))), .blk b1 24 [.int .i64 c.layers, .slice A_c_bounds c.bounds.length c_c_bounds]] := H.mod 2 rfl M2 O2 D2
        replace R0 := H.ext
        refine LW.pure rfl rfl (RV.assign rfl) ?_
        refine LW.nil (hK12 _ _ ?_)
        refine CW.region ?_
        refine LW.pure rfl rfl (RV.move rfl) ?_
        refine LW.pure rfl rfl (RV.add rfl rfl (by omega)) ?_
        refine LW.pure rfl rfl (RV.assign rfl) ?_
        refine LW.nil ?_
        replace H : Hp w w10 [.own A2 c2 84 2 (List.map encMk ((((List.range j).map (rmL c (Int.toNat a))) ++ ([(⟨x1, 0⟩ : Mark)] : List Mark)))), .tab A2_0 c2_0 43 hs2_0 3 1 (encM encI ((wsT c (Int.toNat c.layers) (Int.toNat c.layers)))), .tab A2_1 c2_1 81 hs2_1 4 1 (encM encBo ((wkT c (Int.toNat c.layers) (Int.toNat c.layers)))), .blk b1 24 [.int .i64 c.layers, .slice A_c_bounds c.bounds.length c_c_bounds]] := H.pick [2, 3, 4, 5] (by decide) rfl
        replace R0 := H.ext
        refine ⟨_, ?_, _, ?_, j + 1, A2, c2, rfl, rfl, ?_, ?_⟩
        · omega
        · exact ⟨rfl, rfl, rfl, rfl, rfl, rfl, look_slice rfl (by first | rfl | omega | (simp; done)), look_int rfl (by first | rfl | omega | (simp; omega)), trivial⟩
        · rw [List.range_succ, List.map_append]; simp only [List.map_cons, List.map_nil]; rw [show rmL c (Int.toNat a) j = ⟨_, _⟩ from rfl, hqx1]; simp only [h3]; first | exact H | (simp [h3] at H ⊢; exact H)
        · omega
    ·
      have h2 := of_decide_eq_false h2
      refine CW.exit (hK8 _ _ ?_)
      refine CW.seq fun K16 hK16 => ?_
      refine CW.region ?_
      refine LW.pure rfl rfl (RV.move rfl) ?_
      refine LW.pure rfl rfl (RV.assign rfl) ?_
      refine LW.pure rfl rfl (RV.assign rfl) ?_
      refine LW.nil (hK16 _ _ ?_)
      refine CW.ret ?_
      refine ⟨_, (ResOK.two rfl rfl), ?_⟩
      replace H : Hp w wl1 [.own AL1_9 cL1_9 84 2 (List.map encMk (((List.range j).map (rmL c (Int.toNat a)))))] := H.pick [0] (by decide) rfl
      replace R0 := H.ext
      have e : j = Int.toNat c.layers := by omega
      subst e
      rw [show rlatest c a = ((List.range (Int.toNat c.layers)).map (rmL c (Int.toNat a)), 0) by simp [rlatest, h1]]
      refine ⟨AL1_9, cL1_9, rfl, ?_⟩
      · exact H

set_option maxRecDepth 20000 in
theorem ref_Earliest {c : Core} {A_c_bounds : Option Addr} {c_c_bounds : Nat} {a : Int} {w : World} (h_c_bounds : Sl w A_c_bounds c_c_bounds 3 (c.bounds.map encB)) : Calls Try.prog 28 #[.agg #[.int .i64 c.layers, .slice A_c_bounds c.bounds.length c_c_bounds], .int .i64 a] w (fun e w' => ∃ (A0 : Option Addr) (c0 : Nat), e = .returned (.tuple #[.slice A0 (((rearliest c a).1).length) c0, .int .i64 ((rearliest c a).2)]) ∧ Hp w w' [.own A0 c0 84 2 (List.map encMk (((rearliest c a).1)))]) := by
  refine calls_of_cw (args := [.agg #[.int .i64 c.layers, .slice A_c_bounds c.bounds.length c_c_bounds], .int .i64 a]) Try.func28 rfl rfl rfl rfl ?_
  have H := Hp.start w
  have R0 := H.ext
  refine CW.seq fun K1 hK1 => ?_
  refine CW.region ?_
  refine LW.go rfl rfl (OW.box rfl fun b1 w1 N1 => ?_)
  replace H : Hp w w1 [.blk b1 24 [.int .i64 c.layers, .slice A_c_bounds c.bounds.length c_c_bounds]] := H.new N1 N1.blk
  replace R0 := H.ext
  refine LW.pure rfl rfl (RV.assign rfl) ?_
  refine LW.pure rfl rfl (RV.assign rfl) ?_
  refine LW.nil (hK1 _ _ ?_)
  refine CW.seq fun K2 hK2 => ?_
  refine CW.seq fun K3 hK3 => ?_
  refine CW.region ?_
  refine LW.pure rfl rfl (RV.loadA [.int .i64 c.layers, .slice A_c_bounds c.bounds.length c_c_bounds] k24 rfl (H.blk 0 rfl).cells rfl rfl) ?_
  refine LW.pure rfl rfl (RV.move rfl) ?_
  refine LW.pure rfl rfl (RV.move rfl) ?_
  refine LW.go rfl rfl (OW.call c64 rfl (ref_layered (c := c) (a := a) (b := a) (h_c_bounds.ext R0)) ?_)
  rintro _ w2 ⟨rfl, E1⟩
  refine ⟨_, rfl, ?_⟩
  replace H := H.grow E1
  replace R0 := H.ext
  refine LW.pure rfl rfl (RV.assign rfl) ?_
  refine LW.nil (hK3 _ _ ?_)
  refine CW.seq fun K4 hK4 => ?_
  refine CW.region ?_
  refine LW.pure rfl rfl (RV.move rfl) ?_
  refine LW.pure rfl rfl (RV.nei rfl rfl) ?_
  refine LW.nil (hK4 _ _ ?_)
  refine CW.cond rfl (fun h1 => ?_) (fun h1 => ?_)
  ·
    have h1 := (Bool.not_eq_true' _).mp h1
    have h1 := of_decide_eq_false h1
    refine CW.seq fun K5 hK5 => ?_
    refine CW.region ?_
    refine LW.pure rfl rfl (RV.move rfl) ?_
    refine LW.pure rfl rfl (RV.assign rfl) ?_
    refine LW.pure rfl rfl (RV.assign rfl) ?_
    refine LW.nil (hK5 _ _ ?_)
    refine CW.ret ?_
    refine ⟨_, (ResOK.two rfl rfl), ?_⟩
    replace H : Hp w w2 [.own none 0 84 2 (List.map encMk (([] : List Mark))), .blk b1 24 [.int .i64 c.layers, .slice A_c_bounds c.bounds.length c_c_bounds]] := H.nilOwn 84 2
    replace R0 := H.ext
    replace H : Hp w w2 [.own none 0 84 2 (List.map encMk (([] : List Mark)))] := H.pick [0] (by decide) rfl
    replace R0 := H.ext
    rw [show rearliest c a = ([], layered c a a) by simp [rearliest, h1]]
    refine ⟨none, 0, rfl, ?_⟩
    · exact H
  ·
    have h1 := (Bool.not_eq_false' _).mp h1
    have h1 := of_decide_eq_true h1
    have h1e := layered_ok h1
    have hvo := validate_ok h1e.1
    have hsl := wsT_len c (Int.toNat c.layers) (Int.toNat c.layers)
    have hkl := wkT_len c (Int.toNat c.layers) (Int.toNat c.layers)
    refine CW.skip (hK2 _ _ ?_)
    refine CW.seq fun K6 hK6 => ?_
    refine CW.region ?_
    refine LW.pure rfl rfl (RV.loadA [.int .i64 c.layers, .slice A_c_bounds c.bounds.length c_c_bounds] k24 rfl (H.blk 0 rfl).cells rfl rfl) ?_
    refine LW.pure rfl rfl (RV.fieldAddr f24_0 rfl) ?_
    refine LW.pure rfl rfl (RV.load1 k3 rfl ((H.blk 0 rfl).cells.off 0) rfl) ?_
    refine LW.go rfl rfl (OW.call c65 rfl (ref_walks (c := c) (k := c.layers) (h_c_bounds.ext R0) (h1e.1) (by omega)) ?_)
    rintro _ w3 ⟨A2_0, c2_0, hs2_0, A2_1, c2_1, hs2_1, rfl, E2⟩
    refine ⟨_, rfl, ?_⟩
    replace H : Hp w w3 [.tab A2_0 c2_0 43 hs2_0 3 1 (encM encI ((wsT c (Int.toNat c.layers) (Int.toNat c.layers)))), .tab A2_1 c2_1 81 hs2_1 4 1 (encM encBo ((wkT c (Int.toNat c.layers) (Int.toNat c.layers)))), .blk b1 24 [.int .i64 c.layers, .slice A_c_bounds c.bounds.length c_c_bounds]] := H.append E2
    replace R0 := H.ext
    refine LW.pure rfl rfl (RV.move rfl) ?_
    refine LW.pure rfl rfl (RV.extract rfl rfl) ?_
    refine LW.pure rfl rfl (RV.extract rfl rfl) ?_
    refine LW.pure rfl rfl (RV.assign rfl) ?_
    refine LW.pure rfl rfl (RV.assign rfl) ?_
    refine LW.nil (hK6 _ _ ?_)
    refine CW.seq fun K7 hK7 => ?_
    refine CW.region ?_
    refine LW.pure rfl rfl (RV.assign rfl) ?_
    refine LW.nil (hK7 _ _ ?_)
    refine CW.seq fun K8 hK8 => ?_
    refine CW.seq fun K9 hK9 => ?_
    refine CW.region ?_
    refine LW.pure rfl rfl (RV.assign rfl) ?_
    refine LW.nil (hK9 _ _ ?_)
    refine CW.block ?_
    replace H : Hp w w3 [.own none 0 84 2 (List.map encMk (([] : List Mark))), .tab A2_0 c2_0 43 hs2_0 3 1 (encM encI ((wsT c (Int.toNat c.layers) (Int.toNat c.layers)))), .tab A2_1 c2_1 81 hs2_1 4 1 (encM encBo ((wkT c (Int.toNat c.layers) (Int.toNat c.layers)))), .blk b1 24 [.int .i64 c.layers, .slice A_c_bounds c.bounds.length c_c_bounds]] := H.nilOwn 84 2
    replace R0 := H.ext
    refine CW.loop (fun meas ρ wl1 => ∃ (j : Nat) (AL1_9 : Option Addr) (cL1_9 : Nat), meas = Int.toNat c.layers - j ∧ ρ = [(1, .int .i64 a), (2, .pointer (some (⟨b1, 0, none⟩))), (4, .slice none 0 0), (5, .int .i64 0), (7, .slice A2_0 ((wsT c (Int.toNat c.layers) (Int.toNat c.layers)).length) c2_0), (8, .slice A2_1 ((wkT c (Int.toNat c.layers) (Int.toNat c.layers)).length) c2_1), (9, .slice AL1_9 ((((List.range j).map (rmE c (Int.toNat a)))).length) cL1_9), (10, .int .i64 (↑j))] ∧ Hp w wl1 [.own AL1_9 cL1_9 84 2 (List.map encMk (((List.range j).map (rmE c (Int.toNat a))))), .tab A2_0 c2_0 43 hs2_0 3 1 (encM encI ((wsT c (Int.toNat c.layers) (Int.toNat c.layers)))), .tab A2_1 c2_1 81 hs2_1 4 1 (encM encBo ((wkT c (Int.toNat c.layers) (Int.toNat c.layers)))), .blk b1 24 [.int .i64 c.layers, .slice A_c_bounds c.bounds.length c_c_bounds]] ∧ (j ≤ Int.toNat c.layers)) (Int.toNat c.layers - 0) ⟨_, ?_, 0, none, 0, rfl, rfl, ?_, ?_⟩ ?_
    · exact ⟨rfl, rfl, rfl, rfl, rfl, rfl, look_slice rfl (by first | rfl | omega | (simp; done)), look_int rfl (by first | rfl | omega | (simp; omega)), trivial⟩
    · exact H
    · omega
    rintro _ _ wl1 ⟨j, AL1_9, cL1_9, rfl, rfl, H, hI1⟩
    have R0 := H.ext
    have hP := wN_inv' h1e.1 (j) (k := Int.toNat c.layers) (by omega)
    have hP1 := hP.l1
    have hP2 := hP.l2
    refine CW.seq fun K10 hK10 => ?_
    refine CW.seq fun K11 hK11 => ?_
    refine CW.region ?_
    refine LW.pure rfl rfl (RV.move rfl) ?_
    refine LW.pure rfl rfl (RV.fieldAddr f24_0 rfl) ?_
    refine LW.pure rfl rfl (RV.load1 k3 rfl ((H.blk 3 rfl).cells.off 0) rfl) ?_
    refine LW.pure rfl rfl (RV.lss rfl rfl) ?_
    refine LW.nil (hK11 _ _ ?_)
    refine CW.cond rfl (fun h2 => ?_) (fun h2 => ?_)
    ·
      have h2 := of_decide_eq_true h2
      refine CW.skip (hK10 _ _ ?_)
      refine CW.seq fun K12 hK12 => ?_
      refine CW.block ?_
      refine CW.seq fun K13 hK13 => ?_
      refine CW.region ?_
      refine LW.pure rfl rfl (RV.move rfl) ?_
      refine LW.pure rfl rfl (RV.move rfl) ?_
      have hb1 : 0 ≤ ((↑j) : Int) ∧ ((↑j) : Int) < (((wkT c (Int.toNat c.layers) (Int.toNat c.layers)).length : Nat) : Int) := by omega
      have kx1 : ((wkT c (Int.toNat c.layers) (Int.toNat c.layers)))[j]? = some ((wN c (j) (Int.toNat c.layers)).2) := wkT_at c (Int.toNat c.layers) (Int.toNat c.layers) (Nat.le_refl _) (j) (by omega)
      obtain ⟨B1, e1, hh1⟩ := (H.tab 2 rfl).hd kx1
      refine LW.pure rfl rfl (RV.indexAddr s78 rfl rfl hb1 ((H.tab 2 rfl).addr_ kx1)) ?_
      refine LW.pure rfl rfl (RV.load1 k81 rfl ((H.tab 2 rfl).cell kx1 hh1) rfl) ?_
      refine LW.pure rfl rfl (RV.move rfl) ?_
      have hb2 : 0 ≤ ((a) : Int) ∧ ((a) : Int) < ((((wN c (j) (Int.toNat c.layers)).2).length : Nat) : Int) := by omega
      obtain ⟨x1, hx1⟩ := ex_at (l := (wN c (j) (Int.toNat c.layers)).2) (j := Int.toNat a) (by first | omega | (simp; omega))
      have hqx1 := kn_of hx1
      refine LW.pure rfl rfl (RV.indexAddr s81 rfl rfl hb2 (((H.tab 2 rfl).rowO kx1 hh1).sl.addr_ hx1)) ?_
      refine LW.pure rfl rfl (RV.load1 k4 rfl (((H.tab 2 rfl).rowO kx1 hh1).sl.at_ hx1) rfl) ?_
      refine LW.pure rfl rfl (RV.build (vs := [.bool x1]) (cs := [.bool x1, .int .i64 0]) rfl (fun _ => by kernel_rfl)) ?_
      refine LW.go rfl rfl (OW.alloc z84 fun b2 w4 N2 => ?_)
      replace H : Hp w w4 [.blk b2 84 [.bool false, .int .i64 0], .own AL1_9 cL1_9 84 2 (List.map encMk (((List.range j).map (rmE c (Int.toNat a))))), .tab A2_0 c2_0 43 hs2_0 3 1 (encM encI ((wsT c (Int.toNat c.layers) (Int.toNat c.layers)))), .tab A2_1 c2_1 81 hs2_1 4 1 (encM encBo ((wkT c (Int.toNat c.layers) (Int.toNat c.layers)))), .blk b1 24 [.int .i64 c.layers, .slice A_c_bounds c.bounds.length c_c_bounds]] := H.new N2 N2.blk
      replace R0 := H.ext
      refine LW.go rfl rfl (OW.store k84 rfl rfl (H.blk 0 rfl) (off := 0) (vs := [.bool x1, .int .i64 0]) rfl rfl rfl rfl rfl fun w5 S1 => ?_)
      replace H : Hp w w5 [.blk b2 84 [.bool x1, .int .i64 0], .own AL1_9 cL1_9 84 2 (List.map encMk (((List.range j).map (rmE c (Int.toNat a))))), .tab A2_0 c2_0 43 hs2_0 3 1 (encM encI ((wsT c (Int.toNat c.layers) (Int.toNat c.layers)))), .tab A2_1 c2_1 81 hs2_1 4 1 (encM encBo ((wkT c (Int.toNat c.layers) (Int.toNat c.layers)))), .blk b1 24 [.int .i64 c.layers, .slice A_c_bounds c.bounds.length c_c_bounds]] := H.stored 0 rfl S1
      replace R0 := H.ext
      refine LW.nil (hK13 _ _ ?_)
      refine CW.seq fun K14 hK14 => ?_
      refine CW.seq fun K15 hK15 => ?_
      refine CW.region ?_
      refine LW.pure rfl rfl (RV.fieldAddr f84_0 rfl) ?_
      refine LW.pure rfl rfl (RV.load1 k4 rfl ((H.blk 0 rfl).cells.off 0) rfl) ?_
      refine LW.nil (hK15 _ _ ?_)
      refine CW.cond rfl (fun h3 => ?_) (fun h3 => ?_)
      ·
        refine CW.region ?_
        refine LW.pure rfl rfl (RV.move rfl) ?_
        refine LW.pure rfl rfl (RV.move rfl) ?_
        have hb3 : 0 ≤ ((↑j) : Int) ∧ ((↑j) : Int) < (((wsT c (Int.toNat c.layers) (Int.toNat c.layers)).length : Nat) : Int) := by omega
        have kx2 : ((wsT c (Int.toNat c.layers) (Int.toNat c.layers)))[j]? = some ((wN c (j) (Int.toNat c.layers)).1) := wsT_at c (Int.toNat c.layers) (Int.toNat c.layers) (Nat.le_refl _) (j) (by omega)
        obtain ⟨B2, e2, hh2⟩ := (H.tab 2 rfl).hd kx2
        refine LW.pure rfl rfl (RV.indexAddr s58 rfl rfl hb3 ((H.tab 2 rfl).addr_ kx2)) ?_
        refine LW.pure rfl rfl (RV.load1 k43 rfl ((H.tab 2 rfl).cell kx2 hh2) rfl) ?_
        refine LW.pure rfl rfl (RV.move rfl) ?_
        have hb4 : 0 ≤ ((a) : Int) ∧ ((a) : Int) < ((((wN c (j) (Int.toNat c.layers)).1).length : Nat) : Int) := by omega
        obtain ⟨x2, hx2⟩ := ex_at (l := (wN c (j) (Int.toNat c.layers)).1) (j := Int.toNat a) (by first | omega | (simp; omega))
        have hqx2 := sm_of hx2
        have hdd := hP.at_ hx2
        refine LW.pure rfl rfl (RV.indexAddr s43 rfl rfl hb4 (((H.tab 2 rfl).rowO kx2 hh2).sl.addr_ hx2)) ?_
        refine LW.pure rfl rfl (RV.load1 k3 rfl (((H.tab 2 rfl).rowO kx2 hh2).sl.at_ hx2) rfl) ?_
        refine LW.pure rfl rfl (RV.neg rfl (by omega)) ?_
        refine LW.pure rfl rfl (RV.fieldAddr f84_1 rfl) ?_
        refine LW.go rfl rfl (OW.store k3 rfl rfl (H.blk 0 rfl) (off := 1) (vs := [.int .i64 (-x2)]) rfl rfl rfl rfl rfl fun w6 S2 => ?_)
        replace H : Hp w w6 [.blk b2 84 [.bool x1, .int .i64 (-x2)], .own AL1_9 cL1_9 84 2 (List.map encMk (((List.range j).map (rmE c (Int.toNat a))))), .tab A2_0 c2_0 43 hs2_0 3 1 (encM encI ((wsT c (Int.toNat c.layers) (Int.toNat c.layers)))), .tab A2_1 c2_1 81 hs2_1 4 1 (encM encBo ((wkT c (Int.toNat c.layers) (Int.toNat c.layers)))), .blk b1 24 [.int .i64 c.layers, .slice A_c_bounds c.bounds.length c_c_bounds]] := H.stored 0 rfl S2
        replace R0 := H.ext
        refine LW.nil (hK14 _ _ ?_)
        refine CW.region ?_
        refine LW.pure rfl rfl (RV.move rfl) ?_
        refine LW.pure rfl rfl (RV.loadA [.bool x1, .int .i64 (-x2)] k84 rfl (H.blk 0 rfl).cells rfl rfl) ?_
        refine LW.go rfl rfl (OW.buildSlice (e := 84) (vs := [.agg #[.bool x1, .int .i64 (-x2)]]) (cs := [.bool x1, .int .i64 (-x2)]) rfl (fun _ => by kernel_rfl) fun b3 w7 N3 => ?_)
        replace H : Hp w w7 [.own (some ⟨b3, 0, none⟩) 1 84 2 (List.map encMk (([(⟨x1, -x2⟩ : Mark)] : List Mark))), .blk b2 84 [.bool x1, .int .i64 (-x2)], .own AL1_9 cL1_9 84 2 (List.map encMk (((List.range j).map (rmE c (Int.toNat a))))), .tab A2_0 c2_0 43 hs2_0 3 1 (encM encI ((wsT c (Int.toNat c.layers) (Int.toNat c.layers)))), .tab A2_1 c2_1 81 hs2_1 4 1 (encM encBo ((wkT c (Int.toNat c.layers) (Int.toNat c.layers)))), .blk b1 24 [.int .i64 c.layers, .slice A_c_bounds c.bounds.length c_c_bounds]] := H.made' (enc := encMk) (l := ([(⟨x1, -x2⟩ : Mark)] : List Mark)) N3 N3.blk (fun _ => rfl) (by simp) (by first | decide | omega | simp)
        replace R0 := H.ext
        refine LW.go rfl rfl (OW.appendL (enc := encMk) (l := ((List.range j).map (rmE c (Int.toNat a)))) (xs := ([(⟨x1, -x2⟩ : Mark)] : List Mark)) s38 rfl rfl (H.own 2 rfl) (H.own 0 rfl).sl (fun _ => rfl) rfl rfl (by first | omega | (simp; omega)) (by first | omega | (simp; omega)) fun A1 c1 w8 O1 M1 D1 => ?_)
        replace H : Hp w w8 [.own (some ⟨b3, 0, none⟩) 1 84 2 (List.map encMk (([(⟨x1, -x2⟩ : Mark)] : List Mark))), .blk b2 84 [.bool x1, .int .i64 (-x2)], .own A1 c1 84 2 (List.map encMk ((((List.range j).map (rmE c (Int.toNat a))) ++ ([(⟨x1, -x2⟩ : Mark)] : List Mark)))), .tab A2_0 c2_0 43 hs2_0 3 1 (encM encI ((wsT c (Int.toNat c.layers) (Int.toNat c.layers)))), .tab A2_1 c2_1 81 hs2_1 4 1 (encM encBo ((wkT c (Int.toNat c.layers) (Int.toNat c.layers)))), .blk b1 24 [.int .i64 c.layers, .slice A_c_bounds c.bounds.length c_c_bounds]] := H.mod 2 rfl M1 O1 D1
        replace R0 := H.ext
        refine LW.pure rfl rfl (RV.assign rfl) ?_
        refine LW.nil (hK12 _ _ ?_)
        refine CW.region ?_
        refine LW.pure rfl rfl (RV.move rfl) ?_
        refine LW.pure rfl rfl (RV.add rfl rfl (by omega)) ?_
        refine LW.pure rfl rfl (RV.assign rfl) ?_
        refine LW.nil ?_
        replace H : Hp w w8 [.own A1 c1 84 2 (List.map encMk ((((List.range j).map (rmE c (Int.toNat a))) ++ ([(⟨x1, -x2⟩ : Mark)] : List Mark)))), .tab A2_0 c2_0 43 hs2_0 3 1 (encM encI ((wsT c (Int.toNat c.layers) (Int.toNat c.layers)))), .tab A2_1 c2_1 81 hs2_1 4 1 (encM encBo ((wkT c (Int.toNat c.layers) (Int.toNat c.layers)))), .blk b1 24 [.int .i64 c.layers, .slice A_c_bounds c.bounds.length c_c_bounds]] := H.pick [2, 3, 4, 5] (by decide) rfl
        replace R0 := H.ext
        refine ⟨_, ?_, _, ?_, j + 1, A1, c1, rfl, rfl, ?_, ?_⟩
        · omega
        · exact ⟨rfl, rfl, rfl, rfl, rfl, rfl, look_slice rfl (by first | rfl | omega | (simp; done)), look_int rfl (by first | rfl | omega | (simp; omega)), trivial⟩
        · rw [List.range_succ, List.map_append]; simp only [List.map_cons, List.map_nil]; rw [show rmE c (Int.toNat a) j = ⟨_, _⟩ from rfl, hqx1, hqx2]; simp only [h3]; first | exact H | (simp [h3] at H ⊢; exact H)
        · omega
      ·
        refine CW.skip (hK14 _ _ ?_)
        refine CW.region ?_
        refine LW.pure rfl rfl (RV.move rfl) ?_
        refine LW.pure rfl rfl (RV.loadA [.bool x1, .int .i64 0] k84 rfl (H.blk 0 rfl).cells rfl rfl) ?_
        refine LW.go rfl rfl (OW.buildSlice (e := 84) (vs := [.agg #[.bool x1, .int .i64 0]]) (cs := [.bool x1, .int .i64 0]) rfl (fun _ => by kernel_rfl) fun b4 w9 N4 => ?_)
        replace H : Hp w w9 [.own (some ⟨b4, 0, none⟩) 1 84 2 (List.map encMk (([(⟨x1, 0⟩ : Mark)] : List Mark))), .blk b2 84 [.bool x1, .int .i64 0], .own AL1_9 cL1_9 84 2 (List.map encMk (((List.range j).map (rmE c (Int.toNat a))))), .tab A2_0 c2_0 43 hs2_0 3 1 (encM encI ((wsT c (Int.toNat c.layers) (Int.toNat c.layers)))), .tab A2_1 c2_1 81 hs2_1 4 1 (encM encBo ((wkT c (Int.toNat c.layers) (Int.toNat c.layers)))), .blk b1 24 [.int .i64 c.layers, .slice A_c_bounds c.bounds.length c_c_bounds]] := H.made' (enc := encMk) (l := ([(⟨x1, 0⟩ : Mark)] : List Mark)) N4 N4.blk (fun _ => rfl) (by simp) (by first | decide | omega | simp)
        replace R0 := H.ext
        refine LW.go rfl rfl (OW.appendL (enc := encMk) (l := ((List.range j).map (rmE c (Int.toNat a)))) (xs := ([(⟨x1, 0⟩ : Mark)] : List Mark)) s38 rfl rfl (H.own 2 rfl) (H.own 0 rfl).sl (fun _ => rfl) rfl rfl (by first | omega | (simp; omega)) (by first | omega | (simp; omega)) fun A2 c2 w10 O2 M2 D2 => ?_)
        replace H : Hp w w10 [.own (some ⟨b4, 0, none⟩) 1 84 2 (List.map encMk (([(⟨x1, 0⟩ : Mark)] : List Mark))), .blk b2 84 [.bool x1, .int .i64 0], .own A2 c2 84 2 (List.map encMk ((((List.range j).map (rmE c (Int.toNat a))) ++ ([(⟨x1, 0⟩ : Mark)] : List Mark)))), .tab A2_0 c2_0 43 hs2_0 3 1 (encM encI ((wsT c (Int.toNat c.layers) (Int.toNat c.layers)))), .tab A2_1 c2_1 81 hs2_1 4 1 (encM encBo ((wkT c (Int.toNat c.layers) (Int.toNat c.layers)))), .blk b1 24 [.int .i64 c.layers, .slice A_c_bounds c.bounds.length c_c_bounds]] := H.mod 2 rfl M2 O2 D2
        replace R0 := H.ext
        refine LW.pure rfl rfl (RV.assign rfl) ?_
        refine LW.nil (hK12 _ _ ?_)
        refine CW.region ?_
        refine LW.pure rfl rfl (RV.move rfl) ?_
        refine LW.pure rfl rfl (RV.add rfl rfl (by omega)) ?_
        refine LW.pure rfl rfl (RV.assign rfl) ?_
        refine LW.nil ?_
        replace H : Hp w w10 [.own A2 c2 84 2 (List.map encMk ((((List.range j).map (rmE c (Int.toNat a))) ++ ([(⟨x1, 0⟩ : Mark)] : List Mark)))), .tab A2_0 c2_0 43 hs2_0 3 1 (encM encI ((wsT c (Int.toNat c.layers) (Int.toNat c.layers)))), .tab A2_1 c2_1 81 hs2_1 4 1 (encM encBo ((wkT c (Int.toNat c.layers) (Int.toNat c.layers)))), .blk b1 24 [.int .i64 c.layers, .slice A_c_bounds c.bounds.length c_c_bounds]] := H.pick [2, 3, 4, 5] (by decide) rfl
        replace R0 := H.ext
        refine ⟨_, ?_, _, ?_, j + 1, A2, c2, rfl, rfl, ?_, ?_⟩
        · omega
        · exact ⟨rfl, rfl, rfl, rfl, rfl, rfl, look_slice rfl (by first | rfl | omega | (simp; done)), look_int rfl (by first | rfl | omega | (simp; omega)), trivial⟩
        · rw [List.range_succ, List.map_append]; simp only [List.map_cons, List.map_nil]; rw [show rmE c (Int.toNat a) j = ⟨_, _⟩ from rfl, hqx1]; simp only [h3]; first | exact H | (simp [h3] at H ⊢; exact H)
        · omega
    ·
      have h2 := of_decide_eq_false h2
      refine CW.exit (hK8 _ _ ?_)
      refine CW.seq fun K16 hK16 => ?_
      refine CW.region ?_
      refine LW.pure rfl rfl (RV.move rfl) ?_
      refine LW.pure rfl rfl (RV.assign rfl) ?_
      refine LW.pure rfl rfl (RV.assign rfl) ?_
      refine LW.nil (hK16 _ _ ?_)
      refine CW.ret ?_
      refine ⟨_, (ResOK.two rfl rfl), ?_⟩
      replace H : Hp w wl1 [.own AL1_9 cL1_9 84 2 (List.map encMk (((List.range j).map (rmE c (Int.toNat a)))))] := H.pick [0] (by decide) rfl
      replace R0 := H.ext
      have e : j = Int.toNat c.layers := by omega
      subst e
      rw [show rearliest c a = ((List.range (Int.toNat c.layers)).map (rmE c (Int.toNat a)), 0) by simp [rearliest, h1]]
      refine ⟨AL1_9, cL1_9, rfl, ?_⟩
      · exact H

set_option maxRecDepth 20000 in
theorem law_sameMarks {l : List Mark} {A_l : Option Addr} {c_l : Nat} {r : List Mark} {A_r : Option Addr} {c_r : Nat} {w : World} (h_l : Sl w A_l c_l 2 (l.map encMk)) (h_r : Sl w A_r c_r 2 (r.map encMk)) (hle : r = l) : Calls Try.prog 29 #[.slice A_l l.length c_l, .slice A_r r.length c_r] w (Ret w (.bool true)) := by
  refine calls_of_cw (args := [.slice A_l l.length c_l, .slice A_r r.length c_r]) Try.func29 rfl rfl rfl rfl ?_
  have H := Hp.start w
  have R0 := H.ext
  have hlen : r.length = l.length := by rw [hle]
  have hmx := h_l.max
  refine CW.seq fun K1 hK1 => ?_
  refine CW.region ?_
  refine LW.pure rfl rfl (RV.assign rfl) ?_
  refine LW.nil (hK1 _ _ ?_)
  refine CW.seq fun K2 hK2 => ?_
  refine CW.seq fun K3 hK3 => ?_
  refine CW.region ?_
  refine LW.pure rfl rfl (RV.move rfl) ?_
  refine LW.pure rfl rfl (RV.len s38 rfl) ?_
  refine LW.pure rfl rfl (RV.move rfl) ?_
  refine LW.pure rfl rfl (RV.len s38 rfl) ?_
  refine LW.pure rfl rfl (RV.nei rfl rfl) ?_
  refine LW.nil (hK3 _ _ ?_)
  refine CW.cond rfl (fun h1 => ?_) (fun h1 => ?_)
  ·
    have h1 := (Bool.not_eq_true' _).mp h1
    have h1 := of_decide_eq_false h1
    exfalso; omega
  ·
    have h1 := (Bool.not_eq_false' _).mp h1
    have h1 := of_decide_eq_true h1
    refine CW.skip (hK2 _ _ ?_)
    refine CW.seq fun K4 hK4 => ?_
    refine CW.seq fun K5 hK5 => ?_
    refine CW.region ?_
    refine LW.pure rfl rfl (RV.assign rfl) ?_
    refine LW.nil (hK5 _ _ ?_)
    refine CW.block ?_
    refine CW.loop (fun meas ρ wl1 => ∃ (i : Nat), meas = l.length - i ∧ ρ = [(0, .slice A_l l.length c_l), (1, .slice A_r r.length c_r), (5, .int .i64 (↑i))] ∧ Hp w wl1 [] ∧ (i ≤ l.length ∧ (True))) (l.length - 0) ⟨_, ?_, 0, rfl, rfl, ?_, ?_⟩ ?_
    · exact ⟨rfl, rfl, look_int rfl (by first | rfl | omega | (simp; omega)), trivial⟩
    · exact H
    · simp
    rintro _ _ wl1 ⟨i, rfl, rfl, H, hI1⟩
    have R0 := H.ext
    refine CW.seq fun K6 hK6 => ?_
    refine CW.seq fun K7 hK7 => ?_
    refine CW.region ?_
    refine LW.pure rfl rfl (RV.move rfl) ?_
    refine LW.pure rfl rfl (RV.move rfl) ?_
    refine LW.pure rfl rfl (RV.len s38 rfl) ?_
    refine LW.pure rfl rfl (RV.lss rfl rfl) ?_
    refine LW.nil (hK7 _ _ ?_)
    refine CW.cond rfl (fun h2 => ?_) (fun h2 => ?_)
    ·
      have h2 := of_decide_eq_true h2
      refine CW.skip (hK6 _ _ ?_)
      refine CW.seq fun K8 hK8 => ?_
      refine CW.block ?_
      refine CW.seq fun K9 hK9 => ?_
      refine CW.draw [] (fun _ => True) (.cons 0 1 (.cons 1 1 (.cons 2 1 (.cons 3 1 (.cons 4 1 (.cons 5 1 (.cons 6 1 (.cons 7 1 (.cons 8 1 .nil))))))))) mixed (by kernel_rfl) fun w1 E1 => ?_
      replace H := H.grow E1
      replace R0 := H.ext
      refine DW.fix rfl rfl rfl (fun _ EQ => RV.move rfl) ?_
      refine DW.fix rfl rfl rfl (fun _ EQ => RV.move rfl) ?_
      have hb1 : 0 ≤ ((↑i) : Int) ∧ ((↑i) : Int) < ((l.length : Nat) : Int) := by omega
      obtain ⟨x1, hx1⟩ := ex_at (l := l) (j := i) (by first | omega | (simp; omega))
      refine DW.fix rfl rfl rfl (fun _ EQ => RV.indexAddr s38 rfl rfl hb1 (h_l.addr hb1)) ?_
      refine DW.fix rfl rfl rfl (fun _ EQ => RV.loadA [.bool x1.known, .int .i64 x1.date] k84 rfl ((h_l.at_ hx1).ext (R0.trans EQ)) rfl rfl) ?_
      refine DW.fix rfl rfl rfl (fun _ EQ => RV.move rfl) ?_
      refine DW.fix rfl rfl rfl (fun _ EQ => RV.move rfl) ?_
      have hb2 : 0 ≤ ((↑i) : Int) ∧ ((↑i) : Int) < ((r.length : Nat) : Int) := by omega
      obtain ⟨x2, hx2⟩ := ex_at (l := r) (j := i) (by first | omega | (simp; omega))
      have hxx : x2 = x1 := by rw [hle] at hx2; exact Option.some.inj (hx2.symm.trans hx1)
      refine DW.fix rfl rfl rfl (fun _ EQ => RV.indexAddr s38 rfl rfl hb2 (h_r.addr hb2)) ?_
      refine DW.fix rfl rfl rfl (fun _ EQ => RV.loadA [.bool x2.known, .int .i64 x2.date] k84 rfl ((h_r.at_ hx2).ext (R0.trans EQ)) rfl rfl) ?_
      refine DW.fix rfl rfl rfl (fun _ EQ => RV.neA e84g (e84 _ _ _ _) rfl rfl) ?_
      refine DW.nil (hK9 _ _ ?_)
      refine CW.cond rfl (fun h3 => ?_) (fun h3 => ?_)
      ·
        have h3 := (Bool.not_eq_true' _).mp h3
        exfalso; simp [hxx] at h3
      ·
        have h3 := (Bool.not_eq_false' _).mp h3
        refine CW.skip (hK8 _ _ ?_)
        refine CW.region ?_
        refine LW.pure rfl rfl (RV.move rfl) ?_
        refine LW.pure rfl rfl (RV.add rfl rfl (by omega)) ?_
        refine LW.pure rfl rfl (RV.assign rfl) ?_
        refine LW.nil ?_
        refine ⟨_, ?_, _, ?_, i + 1, rfl, rfl, ?_, ?_⟩
        · omega
        · exact ⟨rfl, rfl, look_int rfl (by first | rfl | omega | (simp; omega)), trivial⟩
        · exact H
        · exact ⟨by omega, trivial⟩
    ·
      have h2 := of_decide_eq_false h2
      refine CW.exit (hK4 _ _ ?_)
      refine CW.seq fun K10 hK10 => ?_
      refine CW.region ?_
      refine LW.pure rfl rfl (RV.assign rfl) ?_
      refine LW.nil (hK10 _ _ ?_)
      refine CW.ret ?_
      refine ⟨_, (ResOK.one rfl), ?_⟩
      refine ⟨rfl, R0⟩

end Go.Core
