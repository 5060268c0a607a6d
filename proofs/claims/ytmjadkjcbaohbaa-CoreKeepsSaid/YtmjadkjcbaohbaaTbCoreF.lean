/- Lemmas and walks that the proof of this claim uses: TbCoreF. -/
import Derived.Test.YtmjadkjcbaohbaaTbCoreE
import Derived.Test.YtmjadkjcbaohbaaProg
import Derived.KernelRfl
namespace Go.Core
open Go.Tb Go.Proofs
set_option linter.unusedVariables false
set_option linter.unusedSimpArgs false

theorem c22 : callable Try.prog 22 = true := by kernel_rfl
theorem c37 : callable Try.prog 37 = true := by kernel_rfl
theorem c64 : callable Try.prog 64 = true := by kernel_rfl
theorem c65 : callable Try.prog 65 = true := by kernel_rfl
theorem c69 : callable Try.prog 69 = true := by kernel_rfl


set_option maxRecDepth 20000 in
theorem ref_clashes {c : Core} {A_c_bounds : Option Addr} {c_c_bounds : Nat} {w : World} (h_c_bounds : Sl w A_c_bounds c_c_bounds 3 (c.bounds.map encB)) (hv : validate c = 0) : Calls Try.prog 69 #[.agg #[.int .i64 c.layers, .slice A_c_bounds c.bounds.length c_c_bounds]] w (Ret w (.bool (rclash c))) := by
  refine calls_of_cw (args := [.agg #[.int .i64 c.layers, .slice A_c_bounds c.bounds.length c_c_bounds]]) Try.func69 rfl rfl rfl rfl ?_
  have H := Hp.start w
  have R0 := H.ext
  have hvo := validate_ok hv
  have hsl := wsT_len c (Int.toNat c.layers) (Int.toNat c.layers)
  have hkl := wkT_len c (Int.toNat c.layers) (Int.toNat c.layers)
  refine CW.seq fun K1 hK1 => ?_
  refine CW.region ?_
  refine LW.go rfl rfl (OW.box rfl fun b1 w1 N1 => ?_)
  replace H : Hp w w1 [.blk b1 24 [.int .i64 c.layers, .slice A_c_bounds c.bounds.length c_c_bounds]] := H.new N1 N1.blk
  replace R0 := H.ext
  refine LW.pure rfl rfl (RV.assign rfl) ?_
  refine LW.nil (hK1 _ _ ?_)
  refine CW.seq fun K2 hK2 => ?_
  refine CW.region ?_
  refine LW.pure rfl rfl (RV.loadA [.int .i64 c.layers, .slice A_c_bounds c.bounds.length c_c_bounds] k24 rfl (H.blk 0 rfl).cells rfl rfl) ?_
  refine LW.pure rfl rfl (RV.fieldAddr f24_0 rfl) ?_
  refine LW.pure rfl rfl (RV.load1 k3 rfl ((H.blk 0 rfl).cells.off 0) rfl) ?_
  refine LW.go rfl rfl (OW.call c65 rfl (ref_walks (c := c) (k := c.layers) (h_c_bounds.ext R0) (by assumption) (by omega)) ?_)
  rintro _ w2 ⟨A1_0, c1_0, hs1_0, A1_1, c1_1, hs1_1, rfl, E1⟩
  refine ⟨_, rfl, ?_⟩
  replace H : Hp w w2 [.tab A1_0 c1_0 43 hs1_0 3 1 (encM encI ((wsT c (Int.toNat c.layers) (Int.toNat c.layers)))), .tab A1_1 c1_1 81 hs1_1 4 1 (encM encBo ((wkT c (Int.toNat c.layers) (Int.toNat c.layers)))), .blk b1 24 [.int .i64 c.layers, .slice A_c_bounds c.bounds.length c_c_bounds]] := H.append E1
  replace R0 := H.ext
  refine LW.pure rfl rfl (RV.move rfl) ?_
  refine LW.pure rfl rfl (RV.extract rfl rfl) ?_
  refine LW.pure rfl rfl (RV.extract rfl rfl) ?_
  refine LW.pure rfl rfl (RV.assign rfl) ?_
  refine LW.pure rfl rfl (RV.assign rfl) ?_
  refine LW.nil (hK2 _ _ ?_)
  refine CW.seq fun K3 hK3 => ?_
  refine CW.seq fun K4 hK4 => ?_
  refine CW.region ?_
  refine LW.pure rfl rfl (RV.assign rfl) ?_
  refine LW.nil (hK4 _ _ ?_)
  refine CW.block ?_
  refine CW.loop (fun meas ρ wl1 => ∃ (a : Nat), meas = Int.toNat c.layers - a ∧ ρ = [(1, .pointer (some (⟨b1, 0, none⟩))), (3, .slice A1_0 ((wsT c (Int.toNat c.layers) (Int.toNat c.layers)).length) c1_0), (5, .int .i64 (↑a))] ∧ Hp w wl1 [.tab A1_0 c1_0 43 hs1_0 3 1 (encM encI ((wsT c (Int.toNat c.layers) (Int.toNat c.layers)))), .tab A1_1 c1_1 81 hs1_1 4 1 (encM encBo ((wkT c (Int.toNat c.layers) (Int.toNat c.layers)))), .blk b1 24 [.int .i64 c.layers, .slice A_c_bounds c.bounds.length c_c_bounds]] ∧ (a ≤ Int.toNat c.layers ∧ ∀ i : Nat, i < a → ¬ gi (wN c i (Int.toNat c.layers)).1 i < 0)) (Int.toNat c.layers - 0) ⟨_, ?_, 0, rfl, rfl, ?_, ?_⟩ ?_
  · exact ⟨rfl, rfl, look_int rfl (by first | rfl | omega | (simp; omega)), trivial⟩
  · exact H
  · exact ⟨by omega, fun i hi => by omega⟩
  rintro _ _ wl1 ⟨a, rfl, rfl, H, hI1⟩
  have R0 := H.ext
  have hP := wN_inv' hv a (k := Int.toNat c.layers) (by omega)
  have hP1 := hP.l1
  refine CW.seq fun K5 hK5 => ?_
  refine CW.seq fun K6 hK6 => ?_
  refine CW.region ?_
  refine LW.pure rfl rfl (RV.move rfl) ?_
  refine LW.pure rfl rfl (RV.fieldAddr f24_0 rfl) ?_
  refine LW.pure rfl rfl (RV.load1 k3 rfl ((H.blk 2 rfl).cells.off 0) rfl) ?_
  refine LW.pure rfl rfl (RV.lss rfl rfl) ?_
  refine LW.nil (hK6 _ _ ?_)
  refine CW.cond rfl (fun h1 => ?_) (fun h1 => ?_)
  ·
    have h1 := of_decide_eq_true h1
    refine CW.skip (hK5 _ _ ?_)
    refine CW.seq fun K7 hK7 => ?_
    refine CW.block ?_
    refine CW.seq fun K8 hK8 => ?_
    refine CW.region ?_
    refine LW.pure rfl rfl (RV.move rfl) ?_
    refine LW.pure rfl rfl (RV.move rfl) ?_
    have hb1 : 0 ≤ ((↑a) : Int) ∧ ((↑a) : Int) < (((wsT c (Int.toNat c.layers) (Int.toNat c.layers)).length : Nat) : Int) := by omega
    have kx1 : ((wsT c (Int.toNat c.layers) (Int.toNat c.layers)))[a]? = some ((wN c (a) (Int.toNat c.layers)).1) := wsT_at c (Int.toNat c.layers) (Int.toNat c.layers) (Nat.le_refl _) (a) (by omega)
    obtain ⟨B1, e1, hh1⟩ := (H.tab 0 rfl).hd kx1
    refine LW.pure rfl rfl (RV.indexAddr s58 rfl rfl hb1 ((H.tab 0 rfl).addr_ kx1)) ?_
    refine LW.pure rfl rfl (RV.load1 k43 rfl ((H.tab 0 rfl).cell kx1 hh1) rfl) ?_
    refine LW.pure rfl rfl (RV.move rfl) ?_
    have hb2 : 0 ≤ ((↑a) : Int) ∧ ((↑a) : Int) < ((((wN c (a) (Int.toNat c.layers)).1).length : Nat) : Int) := by omega
    obtain ⟨x1, hx1⟩ := ex_at (l := (wN c (a) (Int.toNat c.layers)).1) (j := a) (by first | omega | (simp; omega))
    have hgx := gi_of (i := (a : Int)) hx1
    refine LW.pure rfl rfl (RV.indexAddr s43 rfl rfl hb2 (((H.tab 0 rfl).rowO kx1 hh1).sl.addr_ hx1)) ?_
    refine LW.pure rfl rfl (RV.load1 k3 rfl (((H.tab 0 rfl).rowO kx1 hh1).sl.at_ hx1) rfl) ?_
    refine LW.pure rfl rfl (RV.lss rfl rfl) ?_
    refine LW.nil (hK8 _ _ ?_)
    refine CW.cond rfl (fun h2 => ?_) (fun h2 => ?_)
    ·
      have h2 := of_decide_eq_true h2
      refine CW.seq fun K9 hK9 => ?_
      refine CW.region ?_
      refine LW.pure rfl rfl (RV.assign rfl) ?_
      refine LW.nil (hK9 _ _ ?_)
      refine CW.ret ?_
      refine ⟨_, (ResOK.one rfl), ?_⟩
      refine ⟨?_, R0⟩
      · have e : rclash c = true := List.any_eq_true.2 ⟨a, by simp; omega, by rw [hgx]; simpa using h2⟩
        rw [e]
    ·
      have h2 := of_decide_eq_false h2
      refine CW.skip (hK7 _ _ ?_)
      refine CW.region ?_
      refine LW.pure rfl rfl (RV.move rfl) ?_
      refine LW.pure rfl rfl (RV.add rfl rfl (by omega)) ?_
      refine LW.pure rfl rfl (RV.assign rfl) ?_
      refine LW.nil ?_
      refine ⟨_, ?_, _, ?_, a + 1, rfl, rfl, ?_, ?_⟩
      · omega
      · exact ⟨rfl, rfl, look_int rfl (by first | rfl | omega | (simp; omega)), trivial⟩
      · exact H
      · refine ⟨by omega, fun i hi => ?_⟩
        by_cases e : i = a
        · subst e; rw [hgx]; exact h2
        · exact hI1.2 i (by omega)
  ·
    have h1 := of_decide_eq_false h1
    refine CW.exit (hK3 _ _ ?_)
    refine CW.seq fun K10 hK10 => ?_
    refine CW.region ?_
    refine LW.pure rfl rfl (RV.assign rfl) ?_
    refine LW.nil (hK10 _ _ ?_)
    refine CW.ret ?_
    refine ⟨_, (ResOK.one rfl), ?_⟩
    refine ⟨?_, R0⟩
    · have e : rclash c = false := List.any_eq_false.2 (by intro i hi; have := hI1.2 i (by simp at hi; omega); simpa using this)
      rw [e]

set_option maxRecDepth 20000 in
theorem ref_layered {c : Core} {A_c_bounds : Option Addr} {c_c_bounds : Nat} {a : Int} {b : Int} {w : World} (h_c_bounds : Sl w A_c_bounds c_c_bounds 3 (c.bounds.map encB)) : Calls Try.prog 64 #[.agg #[.int .i64 c.layers, .slice A_c_bounds c.bounds.length c_c_bounds], .int .i64 a, .int .i64 b] w (Ret w (.int .i64 (layered c a b))) := by
  refine calls_of_cw (args := [.agg #[.int .i64 c.layers, .slice A_c_bounds c.bounds.length c_c_bounds], .int .i64 a, .int .i64 b]) Try.func64 rfl rfl rfl rfl ?_
  have H := Hp.start w
  have R0 := H.ext
  refine CW.seq fun K1 hK1 => ?_
  refine CW.region ?_
  refine LW.go rfl rfl (OW.box rfl fun b1 w1 N1 => ?_)
  replace H : Hp w w1 [.blk b1 24 [.int .i64 c.layers, .slice A_c_bounds c.bounds.length c_c_bounds]] := H.new N1 N1.blk
  replace R0 := H.ext
  refine LW.pure rfl rfl (RV.assign rfl) ?_
  refine LW.nil (hK1 _ _ ?_)
  refine CW.seq fun K2 hK2 => ?_
  refine CW.seq fun K3 hK3 => ?_
  refine CW.region ?_
  refine LW.pure rfl rfl (RV.loadA [.int .i64 c.layers, .slice A_c_bounds c.bounds.length c_c_bounds] k24 rfl (H.blk 0 rfl).cells rfl rfl) ?_
  refine LW.go rfl rfl (OW.call c37 rfl (ref_Validate (c := c) (h_c_bounds.ext R0)) ?_)
  rintro _ w2 ⟨rfl, E1⟩
  refine ⟨_, rfl, ?_⟩
  replace H := H.grow E1
  replace R0 := H.ext
  refine LW.pure rfl rfl (RV.assign rfl) ?_
  refine LW.nil (hK3 _ _ ?_)
  refine CW.seq fun K4 hK4 => ?_
  refine CW.region ?_
  refine LW.pure rfl rfl (RV.move rfl) ?_
  refine LW.pure rfl rfl (RV.nei rfl rfl) ?_
  refine LW.nil (hK4 _ _ ?_)
  refine CW.cond rfl (fun h1 => ?_) (fun h1 => ?_)
  ·
    have h1 := (Bool.not_eq_true' _).mp h1
    have h1 := of_decide_eq_false h1
    refine CW.seq fun K5 hK5 => ?_
    refine CW.region ?_
    refine LW.pure rfl rfl (RV.move rfl) ?_
    refine LW.pure rfl rfl (RV.assign rfl) ?_
    refine LW.nil (hK5 _ _ ?_)
    refine CW.ret ?_
    refine ⟨_, (ResOK.one rfl), ?_⟩
    refine ⟨?_, R0⟩
    · simp [layered, h1]
  ·
    have h1 := (Bool.not_eq_false' _).mp h1
    have h1 := of_decide_eq_true h1
    have hvo := validate_ok h1
    refine CW.skip (hK2 _ _ ?_)
    refine CW.seq fun K6 hK6 => ?_
    refine CW.seq fun K7 hK7 => ?_
    refine CW.region ?_
    refine LW.pure rfl rfl (RV.move rfl) ?_
    refine LW.pure rfl rfl (RV.fieldAddr f24_0 rfl) ?_
    refine LW.pure rfl rfl (RV.load1 k3 rfl ((H.blk 0 rfl).cells.off 0) rfl) ?_
    refine LW.pure rfl rfl (RV.sub rfl rfl (by omega)) ?_
    refine LW.go rfl rfl (OW.call c62 rfl (ref_within (n := a) (lo := 0) (hi := c.layers - 1)) ?_)
    rintro _ w3 ⟨rfl, E2⟩
    refine ⟨_, rfl, ?_⟩
    replace H := H.grow E2
    replace R0 := H.ext
    refine LW.pure rfl rfl (RV.not rfl) ?_
    refine LW.pure rfl rfl (RV.move rfl) ?_
    cases h2 : !(within a 0 (c.layers - 1))
    ·
      have h2 := (Bool.not_eq_false' _).mp h2
      refine LW.pureY rfl rfl rfl rfl (RV.move rfl) ?_
      refine LW.pureY rfl rfl rfl rfl (RV.fieldAddr f24_0 rfl) ?_
      refine LW.pureY rfl rfl rfl rfl (RV.load1 k3 rfl ((H.blk 0 rfl).cells.off 0) rfl) ?_
      refine LW.pureY rfl rfl rfl rfl (RV.sub rfl rfl (by omega)) ?_
      refine LW.yes rfl rfl rfl rfl (OW.call c62 rfl (ref_within (n := b) (lo := 0) (hi := c.layers - 1)) ?_)
      rintro _ w4 ⟨rfl, E3⟩
      refine ⟨_, rfl, ?_⟩
      replace H := H.grow E3
      replace R0 := H.ext
      refine LW.pureY rfl rfl rfl rfl (RV.not rfl) ?_
      refine LW.pure rfl rfl (RV.pickF rfl rfl) ?_
      refine LW.nil (hK7 _ _ ?_)
      refine CW.cond rfl (fun h3 => ?_) (fun h3 => ?_)
      ·
        have h3 := (Bool.not_eq_true' _).mp h3
        refine CW.seq fun K8 hK8 => ?_
        refine CW.region ?_
        refine LW.pure rfl rfl (RV.assign rfl) ?_
        refine LW.nil (hK8 _ _ ?_)
        refine CW.ret ?_
        refine ⟨_, (ResOK.one rfl), ?_⟩
        refine ⟨?_, R0⟩
        · simp [layered, h1, h2, h3]
      ·
        have h3 := (Bool.not_eq_false' _).mp h3
        refine CW.skip (hK6 _ _ ?_)
        refine CW.seq fun K9 hK9 => ?_
        refine CW.seq fun K10 hK10 => ?_
        refine CW.region ?_
        refine LW.pure rfl rfl (RV.loadA [.int .i64 c.layers, .slice A_c_bounds c.bounds.length c_c_bounds] k24 rfl (H.blk 0 rfl).cells rfl rfl) ?_
        refine LW.go rfl rfl (OW.call c69 rfl (ref_clashes (c := c) (h_c_bounds.ext R0) (h1)) ?_)
        rintro _ w5 ⟨rfl, E4⟩
        refine ⟨_, rfl, ?_⟩
        replace H := H.grow E4
        replace R0 := H.ext
        refine LW.nil (hK10 _ _ ?_)
        refine CW.cond rfl (fun h4 => ?_) (fun h4 => ?_)
        ·
          refine CW.seq fun K11 hK11 => ?_
          refine CW.region ?_
          refine LW.pure rfl rfl (RV.assign rfl) ?_
          refine LW.nil (hK11 _ _ ?_)
          refine CW.ret ?_
          refine ⟨_, (ResOK.one rfl), ?_⟩
          refine ⟨?_, R0⟩
          · simp [layered, h1, h2, h3, h4]
        ·
          refine CW.skip (hK9 _ _ ?_)
          refine CW.seq fun K12 hK12 => ?_
          refine CW.region ?_
          refine LW.pure rfl rfl (RV.assign rfl) ?_
          refine LW.nil (hK12 _ _ ?_)
          refine CW.ret ?_
          refine ⟨_, (ResOK.one rfl), ?_⟩
          refine ⟨?_, R0⟩
          · simp [layered, h1, h2, h3, h4]
    ·
      have h2 := (Bool.not_eq_true' _).mp h2
      refine LW.no rfl rfl rfl rfl rfl ?_
      refine LW.no rfl rfl rfl rfl rfl ?_
      refine LW.no rfl rfl rfl rfl rfl ?_
      refine LW.no rfl rfl rfl rfl rfl ?_
      refine LW.no rfl rfl rfl rfl rfl ?_
      refine LW.no rfl rfl rfl rfl rfl ?_
      refine LW.pure rfl rfl (RV.pickT rfl rfl) ?_
      refine LW.nil (hK7 _ _ ?_)
      refine CW.cond rfl (fun _ => ?_) (fun h => by cases h)
      refine CW.seq fun K13 hK13 => ?_
      refine CW.region ?_
      refine LW.pure rfl rfl (RV.assign rfl) ?_
      refine LW.nil (hK13 _ _ ?_)
      refine CW.ret ?_
      refine ⟨_, (ResOK.one rfl), ?_⟩
      refine ⟨?_, R0⟩
      · simp [layered, h1, h2]

set_option maxRecDepth 20000 in
theorem ref_Tightest {c : Core} {A_c_bounds : Option Addr} {c_c_bounds : Nat} {a : Int} {b : Int} {w : World} (h_c_bounds : Sl w A_c_bounds c_c_bounds 3 (c.bounds.map encB)) : Calls Try.prog 22 #[.agg #[.int .i64 c.layers, .slice A_c_bounds c.bounds.length c_c_bounds], .int .i64 a, .int .i64 b] w (Ret w (.tuple #[.int .i64 ((rtightest c a b).1), .bool ((rtightest c a b).2.1), .int .i64 ((rtightest c a b).2.2)])) := by
  refine calls_of_cw (args := [.agg #[.int .i64 c.layers, .slice A_c_bounds c.bounds.length c_c_bounds], .int .i64 a, .int .i64 b]) Try.func22 rfl rfl rfl rfl ?_
  have H := Hp.start w
  have R0 := H.ext
  refine CW.seq fun K1 hK1 => ?_
  refine CW.region ?_
  refine LW.go rfl rfl (OW.box rfl fun b1 w1 N1 => ?_)
  replace H : Hp w w1 [.blk b1 24 [.int .i64 c.layers, .slice A_c_bounds c.bounds.length c_c_bounds]] := H.new N1 N1.blk
  replace R0 := H.ext
  refine LW.pure rfl rfl (RV.assign rfl) ?_
  refine LW.pure rfl rfl (RV.assign rfl) ?_
  refine LW.pure rfl rfl (RV.assign rfl) ?_
  refine LW.nil (hK1 _ _ ?_)
  refine CW.seq fun K2 hK2 => ?_
  refine CW.seq fun K3 hK3 => ?_
  refine CW.region ?_
  refine LW.pure rfl rfl (RV.loadA [.int .i64 c.layers, .slice A_c_bounds c.bounds.length c_c_bounds] k24 rfl (H.blk 0 rfl).cells rfl rfl) ?_
  refine LW.pure rfl rfl (RV.move rfl) ?_
  refine LW.pure rfl rfl (RV.move rfl) ?_
  refine LW.go rfl rfl (OW.call c64 rfl (ref_layered (c := c) (a := a) (b := b) (h_c_bounds.ext R0)) ?_)
  rintro _ w2 ⟨rfl, E1⟩
  refine ⟨_, rfl, ?_⟩
  replace H := H.grow E1
  replace R0 := H.ext
  refine LW.pure rfl rfl (RV.assign rfl) ?_
  refine LW.nil (hK3 _ _ ?_)
  refine CW.seq fun K4 hK4 => ?_
  refine CW.region ?_
  refine LW.pure rfl rfl (RV.move rfl) ?_
  refine LW.pure rfl rfl (RV.nei rfl rfl) ?_
  refine LW.nil (hK4 _ _ ?_)
  refine CW.cond rfl (fun h1 => ?_) (fun h1 => ?_)
  ·
    have h1 := (Bool.not_eq_true' _).mp h1
    have h1 := of_decide_eq_false h1
    refine CW.seq fun K5 hK5 => ?_
    refine CW.region ?_
    refine LW.pure rfl rfl (RV.move rfl) ?_
    refine LW.pure rfl rfl (RV.assign rfl) ?_
    refine LW.pure rfl rfl (RV.assign rfl) ?_
    refine LW.pure rfl rfl (RV.assign rfl) ?_
    refine LW.nil (hK5 _ _ ?_)
    refine CW.ret ?_
    refine ⟨_, (ResOK.three rfl rfl rfl), ?_⟩
    refine ⟨?_, R0⟩
    · simp [rtightest, h1]
  ·
    have h1 := (Bool.not_eq_false' _).mp h1
    have h1 := of_decide_eq_true h1
    have h1e := layered_ok h1
    have hvo := validate_ok h1e.1
    have hsl := wsT_len c (Int.toNat c.layers) (Int.toNat c.layers)
    have hkl := wkT_len c (Int.toNat c.layers) (Int.toNat c.layers)
    have hPa := wN_inv' h1e.1 (Int.toNat a) (k := Int.toNat c.layers) (by omega)
    have hPa1 := hPa.l1
    have hPa2 := hPa.l2
    have hPb := wN_inv' h1e.1 (Int.toNat b) (k := Int.toNat c.layers) (by omega)
    have hPb1 := hPb.l1
    have hPb2 := hPb.l2
    refine CW.skip (hK2 _ _ ?_)
    refine CW.seq fun K6 hK6 => ?_
    refine CW.region ?_
    refine LW.pure rfl rfl (RV.loadA [.int .i64 c.layers, .slice A_c_bounds c.bounds.length c_c_bounds] k24 rfl (H.blk 0 rfl).cells rfl rfl) ?_
    refine LW.pure rfl rfl (RV.fieldAddr f24_0 rfl) ?_
    refine LW.pure rfl rfl (RV.load1 k3 rfl ((H.blk 0 rfl).cells.off 0) rfl) ?_
    refine LW.go rfl rfl (OW.call c65 rfl (ref_walks (c := c) (k := c.layers) (h_c_bounds.ext R0) (h1e.1) (by omega)) ?_)
    rintro _ w3 ⟨A2_0, c2_0, hs2_0, A2_1, c2_1, hs2_1, rfl, E2⟩
    refine ⟨_, rfl, ?_⟩
    replace H : Hp w w3 [.tab A2_0 c2_0 43 hs2_0 3 1 (encM encI ((wsT c (Int.toNat c.layers) (Int.toNat c.layers)))), .tab A2_1 c2_1 81 hs2_1 4 1 (encM encBo ((wkT c (Int.toNat c.layers) (Int.toNat c.layers)))), .blk b1 24 [.int .i64 c.layers, .slice A_c_bounds c.bounds.length c_c_bounds]] := H.append E2
    replace R0 := H.ext
    refine LW.pure rfl rfl (RV.move rfl) ?_
    refine LW.pure rfl rfl (RV.extract rfl rfl) ?_
    refine LW.pure rfl rfl (RV.extract rfl rfl) ?_
    refine LW.pure rfl rfl (RV.assign rfl) ?_
    refine LW.pure rfl rfl (RV.assign rfl) ?_
    refine LW.nil (hK6 _ _ ?_)
    refine CW.seq fun K7 hK7 => ?_
    refine CW.seq fun K8 hK8 => ?_
    refine CW.region ?_
    refine LW.pure rfl rfl (RV.move rfl) ?_
    refine LW.pure rfl rfl (RV.move rfl) ?_
    have hb1 : 0 ≤ ((a) : Int) ∧ ((a) : Int) < (((wkT c (Int.toNat c.layers) (Int.toNat c.layers)).length : Nat) : Int) := by omega
    have kx1 : ((wkT c (Int.toNat c.layers) (Int.toNat c.layers)))[Int.toNat a]? = some ((wN c (Int.toNat a) (Int.toNat c.layers)).2) := wkT_at c (Int.toNat c.layers) (Int.toNat c.layers) (Nat.le_refl _) (Int.toNat a) (by omega)
    obtain ⟨B1, e1, hh1⟩ := (H.tab 1 rfl).hd kx1
    refine LW.pure rfl rfl (RV.indexAddr s78 rfl rfl hb1 ((H.tab 1 rfl).addr_ kx1)) ?_
    refine LW.pure rfl rfl (RV.load1 k81 rfl ((H.tab 1 rfl).cell kx1 hh1) rfl) ?_
    refine LW.pure rfl rfl (RV.move rfl) ?_
    have hb2 : 0 ≤ ((b) : Int) ∧ ((b) : Int) < ((((wN c (Int.toNat a) (Int.toNat c.layers)).2).length : Nat) : Int) := by omega
    obtain ⟨x1, hx1⟩ := ex_at (l := (wN c (Int.toNat a) (Int.toNat c.layers)).2) (j := Int.toNat b) (by first | omega | (simp; omega))
    have hgx1 := gb_of hx1
    refine LW.pure rfl rfl (RV.indexAddr s81 rfl rfl hb2 (((H.tab 1 rfl).rowO kx1 hh1).sl.addr_ hx1)) ?_
    refine LW.pure rfl rfl (RV.load1 k4 rfl (((H.tab 1 rfl).rowO kx1 hh1).sl.at_ hx1) rfl) ?_
    refine LW.pure rfl rfl (RV.not rfl) ?_
    refine LW.nil (hK8 _ _ ?_)
    refine CW.cond rfl (fun h2 => ?_) (fun h2 => ?_)
    ·
      have h2 := (Bool.not_eq_true' _).mp h2
      refine CW.seq fun K9 hK9 => ?_
      refine CW.region ?_
      refine LW.pure rfl rfl (RV.assign rfl) ?_
      refine LW.pure rfl rfl (RV.assign rfl) ?_
      refine LW.pure rfl rfl (RV.assign rfl) ?_
      refine LW.nil (hK9 _ _ ?_)
      refine CW.ret ?_
      refine ⟨_, (ResOK.three rfl rfl rfl), ?_⟩
      refine ⟨?_, R0⟩
      · simp [rtightest, h1, hgx1, h2]
    ·
      have h2 := (Bool.not_eq_false' _).mp h2
      refine CW.skip (hK7 _ _ ?_)
      refine CW.seq fun K10 hK10 => ?_
      refine CW.region ?_
      refine LW.pure rfl rfl (RV.move rfl) ?_
      refine LW.pure rfl rfl (RV.move rfl) ?_
      have hb3 : 0 ≤ ((a) : Int) ∧ ((a) : Int) < (((wsT c (Int.toNat c.layers) (Int.toNat c.layers)).length : Nat) : Int) := by omega
      have kx2 : ((wsT c (Int.toNat c.layers) (Int.toNat c.layers)))[Int.toNat a]? = some ((wN c (Int.toNat a) (Int.toNat c.layers)).1) := wsT_at c (Int.toNat c.layers) (Int.toNat c.layers) (Nat.le_refl _) (Int.toNat a) (by omega)
      obtain ⟨B2, e2, hh2⟩ := (H.tab 0 rfl).hd kx2
      refine LW.pure rfl rfl (RV.indexAddr s58 rfl rfl hb3 ((H.tab 0 rfl).addr_ kx2)) ?_
      refine LW.pure rfl rfl (RV.load1 k43 rfl ((H.tab 0 rfl).cell kx2 hh2) rfl) ?_
      refine LW.pure rfl rfl (RV.move rfl) ?_
      have hb4 : 0 ≤ ((b) : Int) ∧ ((b) : Int) < ((((wN c (Int.toNat a) (Int.toNat c.layers)).1).length : Nat) : Int) := by omega
      obtain ⟨x2, hx2⟩ := ex_at (l := (wN c (Int.toNat a) (Int.toNat c.layers)).1) (j := Int.toNat b) (by first | omega | (simp; omega))
      have hgx2 := gi_of hx2
      refine LW.pure rfl rfl (RV.indexAddr s43 rfl rfl hb4 (((H.tab 0 rfl).rowO kx2 hh2).sl.addr_ hx2)) ?_
      refine LW.pure rfl rfl (RV.load1 k3 rfl (((H.tab 0 rfl).rowO kx2 hh2).sl.at_ hx2) rfl) ?_
      refine LW.pure rfl rfl (RV.assign rfl) ?_
      refine LW.pure rfl rfl (RV.assign rfl) ?_
      refine LW.pure rfl rfl (RV.assign rfl) ?_
      refine LW.nil (hK10 _ _ ?_)
      refine CW.ret ?_
      refine ⟨_, (ResOK.three rfl rfl rfl), ?_⟩
      refine ⟨?_, R0⟩
      · simp [rtightest, h1, hgx1, h2, hgx2]

set_option maxRecDepth 20000 in
theorem ref_Fixed {c : Core} {A_c_bounds : Option Addr} {c_c_bounds : Nat} {a : Int} {b : Int} {w : World} (h_c_bounds : Sl w A_c_bounds c_c_bounds 3 (c.bounds.map encB)) : Calls Try.prog 24 #[.agg #[.int .i64 c.layers, .slice A_c_bounds c.bounds.length c_c_bounds], .int .i64 a, .int .i64 b] w (Ret w (.tuple #[.int .i64 ((rfixed c a b).1), .bool ((rfixed c a b).2.1), .int .i64 ((rfixed c a b).2.2)])) := by
  refine calls_of_cw (args := [.agg #[.int .i64 c.layers, .slice A_c_bounds c.bounds.length c_c_bounds], .int .i64 a, .int .i64 b]) Try.func24 rfl rfl rfl rfl ?_
  have H := Hp.start w
  have R0 := H.ext
  refine CW.seq fun K1 hK1 => ?_
  refine CW.region ?_
  refine LW.go rfl rfl (OW.box rfl fun b1 w1 N1 => ?_)
  replace H : Hp w w1 [.blk b1 24 [.int .i64 c.layers, .slice A_c_bounds c.bounds.length c_c_bounds]] := H.new N1 N1.blk
  replace R0 := H.ext
  refine LW.pure rfl rfl (RV.assign rfl) ?_
  refine LW.pure rfl rfl (RV.assign rfl) ?_
  refine LW.pure rfl rfl (RV.assign rfl) ?_
  refine LW.nil (hK1 _ _ ?_)
  refine CW.seq fun K2 hK2 => ?_
  refine CW.seq fun K3 hK3 => ?_
  refine CW.region ?_
  refine LW.pure rfl rfl (RV.loadA [.int .i64 c.layers, .slice A_c_bounds c.bounds.length c_c_bounds] k24 rfl (H.blk 0 rfl).cells rfl rfl) ?_
  refine LW.pure rfl rfl (RV.move rfl) ?_
  refine LW.pure rfl rfl (RV.move rfl) ?_
  refine LW.go rfl rfl (OW.call c64 rfl (ref_layered (c := c) (a := a) (b := b) (h_c_bounds.ext R0)) ?_)
  rintro _ w2 ⟨rfl, E1⟩
  refine ⟨_, rfl, ?_⟩
  replace H := H.grow E1
  replace R0 := H.ext
  refine LW.pure rfl rfl (RV.assign rfl) ?_
  refine LW.nil (hK3 _ _ ?_)
  refine CW.seq fun K4 hK4 => ?_
  refine CW.region ?_
  refine LW.pure rfl rfl (RV.move rfl) ?_
  refine LW.pure rfl rfl (RV.nei rfl rfl) ?_
  refine LW.nil (hK4 _ _ ?_)
  refine CW.cond rfl (fun h1 => ?_) (fun h1 => ?_)
  ·
    have h1 := (Bool.not_eq_true' _).mp h1
    have h1 := of_decide_eq_false h1
    refine CW.seq fun K5 hK5 => ?_
    refine CW.region ?_
    refine LW.pure rfl rfl (RV.move rfl) ?_
    refine LW.pure rfl rfl (RV.assign rfl) ?_
    refine LW.pure rfl rfl (RV.assign rfl) ?_
    refine LW.pure rfl rfl (RV.assign rfl) ?_
    refine LW.nil (hK5 _ _ ?_)
    refine CW.ret ?_
    refine ⟨_, (ResOK.three rfl rfl rfl), ?_⟩
    refine ⟨?_, R0⟩
    · simp [rfixed, h1]
  ·
    have h1 := (Bool.not_eq_false' _).mp h1
    have h1 := of_decide_eq_true h1
    have h1e := layered_ok h1
    have hvo := validate_ok h1e.1
    have hsl := wsT_len c (Int.toNat c.layers) (Int.toNat c.layers)
    have hkl := wkT_len c (Int.toNat c.layers) (Int.toNat c.layers)
    have hPa := wN_inv' h1e.1 (Int.toNat a) (k := Int.toNat c.layers) (by omega)
    have hPa1 := hPa.l1
    have hPa2 := hPa.l2
    have hPb := wN_inv' h1e.1 (Int.toNat b) (k := Int.toNat c.layers) (by omega)
    have hPb1 := hPb.l1
    have hPb2 := hPb.l2
    refine CW.skip (hK2 _ _ ?_)
    refine CW.seq fun K6 hK6 => ?_
    refine CW.region ?_
    refine LW.pure rfl rfl (RV.loadA [.int .i64 c.layers, .slice A_c_bounds c.bounds.length c_c_bounds] k24 rfl (H.blk 0 rfl).cells rfl rfl) ?_
    refine LW.pure rfl rfl (RV.fieldAddr f24_0 rfl) ?_
    refine LW.pure rfl rfl (RV.load1 k3 rfl ((H.blk 0 rfl).cells.off 0) rfl) ?_
    refine LW.go rfl rfl (OW.call c65 rfl (ref_walks (c := c) (k := c.layers) (h_c_bounds.ext R0) (h1e.1) (by omega)) ?_)
    rintro _ w3 ⟨A2_0, c2_0, hs2_0, A2_1, c2_1, hs2_1, rfl, E2⟩
    refine ⟨_, rfl, ?_⟩
    replace H : Hp w w3 [.tab A2_0 c2_0 43 hs2_0 3 1 (encM encI ((wsT c (Int.toNat c.layers) (Int.toNat c.layers)))), .tab A2_1 c2_1 81 hs2_1 4 1 (encM encBo ((wkT c (Int.toNat c.layers) (Int.toNat c.layers)))), .blk b1 24 [.int .i64 c.layers, .slice A_c_bounds c.bounds.length c_c_bounds]] := H.append E2
    replace R0 := H.ext
    refine LW.pure rfl rfl (RV.move rfl) ?_
    refine LW.pure rfl rfl (RV.extract rfl rfl) ?_
    refine LW.pure rfl rfl (RV.extract rfl rfl) ?_
    refine LW.pure rfl rfl (RV.assign rfl) ?_
    refine LW.pure rfl rfl (RV.assign rfl) ?_
    refine LW.nil (hK6 _ _ ?_)
    refine CW.seq fun K7 hK7 => ?_
    refine CW.seq fun K8 hK8 => ?_
    refine CW.draw [] (fun _ => True) (.cons 0 1 (.cons 1 1 (.cons 2 1 (.cons 3 1 (.cons 4 1 (.cons 5 1 (.cons 6 1 (.cons 7 1 (.cons 8 1 (.cons 9 1 (.cons 10 1 (.cons 11 1 (.cons 12 1 (.cons 13 1 (.cons 14 1 (.cons 15 1 (.cons 16 1 (.cons 17 1 (.cons 18 1 (.cons 19 1 (.cons 20 1 (.cons 21 1 (.cons 22 1 (.cons 23 1 (.cons 24 1 (.cons 25 1 (.cons 26 1 (.cons 27 1 (.cons 28 1 (.cons 29 1 (.cons 30 1 (.cons 31 1 (.cons 32 1 (.cons 33 1 (.cons 34 1 (.cons 35 1 .nil)))))))))))))))))))))))))))))))))))) mixed (by kernel_rfl) fun w4 E3 => ?_
    replace H := H.grow E3
    replace R0 := H.ext
    refine DW.fix rfl rfl rfl (fun _ EQ => RV.move rfl) ?_
    refine DW.fix rfl rfl rfl (fun _ EQ => RV.move rfl) ?_
    have hb1 : 0 ≤ ((a) : Int) ∧ ((a) : Int) < (((wkT c (Int.toNat c.layers) (Int.toNat c.layers)).length : Nat) : Int) := by omega
    have kx1 : ((wkT c (Int.toNat c.layers) (Int.toNat c.layers)))[Int.toNat a]? = some ((wN c (Int.toNat a) (Int.toNat c.layers)).2) := wkT_at c (Int.toNat c.layers) (Int.toNat c.layers) (Nat.le_refl _) (Int.toNat a) (by omega)
    obtain ⟨B1, e1, hh1⟩ := (H.tab 1 rfl).hd kx1
    refine DW.fix rfl rfl rfl (fun _ EQ => RV.indexAddr s78 rfl rfl hb1 ((H.tab 1 rfl).addr_ kx1)) ?_
    refine DW.fix rfl rfl rfl (fun _ EQ => RV.load1 k81 rfl (((H.grow EQ).tab 1 rfl).cell kx1 hh1) rfl) ?_
    refine DW.fix rfl rfl rfl (fun _ EQ => RV.move rfl) ?_
    have hb2 : 0 ≤ ((b) : Int) ∧ ((b) : Int) < ((((wN c (Int.toNat a) (Int.toNat c.layers)).2).length : Nat) : Int) := by omega
    obtain ⟨x1, hx1⟩ := ex_at (l := (wN c (Int.toNat a) (Int.toNat c.layers)).2) (j := Int.toNat b) (by first | omega | (simp; omega))
    have hgx1 := gb_of hx1
    refine DW.fix rfl rfl rfl (fun _ EQ => RV.indexAddr s81 rfl rfl hb2 (((H.tab 1 rfl).rowO kx1 hh1).sl.addr_ hx1)) ?_
    refine DW.fix rfl rfl rfl (fun _ EQ => RV.load1 k4 rfl ((((H.grow EQ).tab 1 rfl).rowO kx1 hh1).sl.at_ hx1) rfl) ?_
    refine DW.fix rfl rfl rfl (fun _ EQ => RV.not rfl) ?_
    refine DW.fix rfl rfl rfl (fun _ EQ => RV.move rfl) ?_
    cases h2 : !x1
    ·
      have h2 := (Bool.not_eq_false' _).mp h2
      refine DW.fixY rfl rfl rfl rfl rfl (fun _ EQ => RV.move rfl) ?_
      refine DW.fixY rfl rfl rfl rfl rfl (fun _ EQ => RV.move rfl) ?_
      have hb3 : 0 ≤ ((b) : Int) ∧ ((b) : Int) < (((wkT c (Int.toNat c.layers) (Int.toNat c.layers)).length : Nat) : Int) := by omega
      have kx2 : ((wkT c (Int.toNat c.layers) (Int.toNat c.layers)))[Int.toNat b]? = some ((wN c (Int.toNat b) (Int.toNat c.layers)).2) := wkT_at c (Int.toNat c.layers) (Int.toNat c.layers) (Nat.le_refl _) (Int.toNat b) (by omega)
      obtain ⟨B2, e2, hh2⟩ := (H.tab 1 rfl).hd kx2
      refine DW.fixY rfl rfl rfl rfl rfl (fun _ EQ => RV.indexAddr s78 rfl rfl hb3 ((H.tab 1 rfl).addr_ kx2)) ?_
      refine DW.fixY rfl rfl rfl rfl rfl (fun _ EQ => RV.load1 k81 rfl (((H.grow EQ).tab 1 rfl).cell kx2 hh2) rfl) ?_
      refine DW.fixY rfl rfl rfl rfl rfl (fun _ EQ => RV.move rfl) ?_
      have hb4 : 0 ≤ ((a) : Int) ∧ ((a) : Int) < ((((wN c (Int.toNat b) (Int.toNat c.layers)).2).length : Nat) : Int) := by omega
      obtain ⟨x2, hx2⟩ := ex_at (l := (wN c (Int.toNat b) (Int.toNat c.layers)).2) (j := Int.toNat a) (by first | omega | (simp; omega))
      have hgx2 := gb_of hx2
      refine DW.fixY rfl rfl rfl rfl rfl (fun _ EQ => RV.indexAddr s81 rfl rfl hb4 (((H.tab 1 rfl).rowO kx2 hh2).sl.addr_ hx2)) ?_
      refine DW.fixY rfl rfl rfl rfl rfl (fun _ EQ => RV.load1 k4 rfl ((((H.grow EQ).tab 1 rfl).rowO kx2 hh2).sl.at_ hx2) rfl) ?_
      refine DW.fixY rfl rfl rfl rfl rfl (fun _ EQ => RV.not rfl) ?_
      refine DW.fix rfl rfl rfl (fun _ EQ => RV.pickF rfl rfl) ?_
      refine DW.fix rfl rfl rfl (fun _ EQ => RV.move rfl) ?_
      cases h3 : !x2
      ·
        have h3 := (Bool.not_eq_false' _).mp h3
        refine DW.fixY rfl rfl rfl rfl rfl (fun _ EQ => RV.move rfl) ?_
        refine DW.fixY rfl rfl rfl rfl rfl (fun _ EQ => RV.move rfl) ?_
        have hb5 : 0 ≤ ((a) : Int) ∧ ((a) : Int) < (((wsT c (Int.toNat c.layers) (Int.toNat c.layers)).length : Nat) : Int) := by omega
        have kx3 : ((wsT c (Int.toNat c.layers) (Int.toNat c.layers)))[Int.toNat a]? = some ((wN c (Int.toNat a) (Int.toNat c.layers)).1) := wsT_at c (Int.toNat c.layers) (Int.toNat c.layers) (Nat.le_refl _) (Int.toNat a) (by omega)
        obtain ⟨B3, e3, hh3⟩ := (H.tab 0 rfl).hd kx3
        refine DW.fixY rfl rfl rfl rfl rfl (fun _ EQ => RV.indexAddr s58 rfl rfl hb5 ((H.tab 0 rfl).addr_ kx3)) ?_
        refine DW.fixY rfl rfl rfl rfl rfl (fun _ EQ => RV.load1 k43 rfl (((H.grow EQ).tab 0 rfl).cell kx3 hh3) rfl) ?_
        refine DW.fixY rfl rfl rfl rfl rfl (fun _ EQ => RV.move rfl) ?_
        have hb6 : 0 ≤ ((b) : Int) ∧ ((b) : Int) < ((((wN c (Int.toNat a) (Int.toNat c.layers)).1).length : Nat) : Int) := by omega
        obtain ⟨x3, hx3⟩ := ex_at (l := (wN c (Int.toNat a) (Int.toNat c.layers)).1) (j := Int.toNat b) (by first | omega | (simp; omega))
        have hgx3 := gi_of hx3
        have hdx3 := hPa.at_ hx3
        refine DW.fixY rfl rfl rfl rfl rfl (fun _ EQ => RV.indexAddr s43 rfl rfl hb6 (((H.tab 0 rfl).rowO kx3 hh3).sl.addr_ hx3)) ?_
        refine DW.fixY rfl rfl rfl rfl rfl (fun _ EQ => RV.load1 k3 rfl ((((H.grow EQ).tab 0 rfl).rowO kx3 hh3).sl.at_ hx3) rfl) ?_
        refine DW.fixY rfl rfl rfl rfl rfl (fun _ EQ => RV.move rfl) ?_
        refine DW.fixY rfl rfl rfl rfl rfl (fun _ EQ => RV.move rfl) ?_
        have hb7 : 0 ≤ ((b) : Int) ∧ ((b) : Int) < (((wsT c (Int.toNat c.layers) (Int.toNat c.layers)).length : Nat) : Int) := by omega
        have kx4 : ((wsT c (Int.toNat c.layers) (Int.toNat c.layers)))[Int.toNat b]? = some ((wN c (Int.toNat b) (Int.toNat c.layers)).1) := wsT_at c (Int.toNat c.layers) (Int.toNat c.layers) (Nat.le_refl _) (Int.toNat b) (by omega)
        obtain ⟨B4, e4, hh4⟩ := (H.tab 0 rfl).hd kx4
        refine DW.fixY rfl rfl rfl rfl rfl (fun _ EQ => RV.indexAddr s58 rfl rfl hb7 ((H.tab 0 rfl).addr_ kx4)) ?_
        refine DW.fixY rfl rfl rfl rfl rfl (fun _ EQ => RV.load1 k43 rfl (((H.grow EQ).tab 0 rfl).cell kx4 hh4) rfl) ?_
        refine DW.fixY rfl rfl rfl rfl rfl (fun _ EQ => RV.move rfl) ?_
        have hb8 : 0 ≤ ((a) : Int) ∧ ((a) : Int) < ((((wN c (Int.toNat b) (Int.toNat c.layers)).1).length : Nat) : Int) := by omega
        obtain ⟨x4, hx4⟩ := ex_at (l := (wN c (Int.toNat b) (Int.toNat c.layers)).1) (j := Int.toNat a) (by first | omega | (simp; omega))
        have hgx4 := gi_of hx4
        have hdx4 := hPb.at_ hx4
        refine DW.fixY rfl rfl rfl rfl rfl (fun _ EQ => RV.indexAddr s43 rfl rfl hb8 (((H.tab 0 rfl).rowO kx4 hh4).sl.addr_ hx4)) ?_
        refine DW.fixY rfl rfl rfl rfl rfl (fun _ EQ => RV.load1 k3 rfl ((((H.grow EQ).tab 0 rfl).rowO kx4 hh4).sl.at_ hx4) rfl) ?_
        refine DW.fixY rfl rfl rfl rfl rfl (fun _ EQ => RV.neg rfl (by omega)) ?_
        refine DW.fixY rfl rfl rfl rfl rfl (fun _ EQ => RV.nei rfl rfl) ?_
        refine DW.fix rfl rfl rfl (fun _ EQ => RV.pickF rfl rfl) ?_
        refine DW.nil (hK8 _ _ ?_)
        refine CW.cond rfl (fun h4 => ?_) (fun h4 => ?_)
        ·
          have h4 := (Bool.not_eq_true' _).mp h4
          have h4 := of_decide_eq_false h4
          refine CW.seq fun K9 hK9 => ?_
          refine CW.region ?_
          refine LW.pure rfl rfl (RV.assign rfl) ?_
          refine LW.pure rfl rfl (RV.assign rfl) ?_
          refine LW.pure rfl rfl (RV.assign rfl) ?_
          refine LW.nil (hK9 _ _ ?_)
          refine CW.ret ?_
          refine ⟨_, (ResOK.three rfl rfl rfl), ?_⟩
          refine ⟨?_, R0⟩
          · simp [rfixed, h1, hgx1, h2, hgx2, h3, hgx3, hgx4, h4]
        ·
          have h4 := (Bool.not_eq_false' _).mp h4
          have h4 := of_decide_eq_true h4
          refine CW.skip (hK7 _ _ ?_)
          refine CW.seq fun K10 hK10 => ?_
          refine CW.region ?_
          refine LW.pure rfl rfl (RV.move rfl) ?_
          refine LW.pure rfl rfl (RV.move rfl) ?_
          have hb9 : 0 ≤ ((a) : Int) ∧ ((a) : Int) < (((wsT c (Int.toNat c.layers) (Int.toNat c.layers)).length : Nat) : Int) := by omega
          have kx5 : ((wsT c (Int.toNat c.layers) (Int.toNat c.layers)))[Int.toNat a]? = some ((wN c (Int.toNat a) (Int.toNat c.layers)).1) := wsT_at c (Int.toNat c.layers) (Int.toNat c.layers) (Nat.le_refl _) (Int.toNat a) (by omega)
          obtain ⟨B5, e5, hh5⟩ := (H.tab 0 rfl).hd kx5
          refine LW.pure rfl rfl (RV.indexAddr s58 rfl rfl hb9 ((H.tab 0 rfl).addr_ kx5)) ?_
          refine LW.pure rfl rfl (RV.load1 k43 rfl ((H.tab 0 rfl).cell kx5 hh5) rfl) ?_
          refine LW.pure rfl rfl (RV.move rfl) ?_
          have hb10 : 0 ≤ ((b) : Int) ∧ ((b) : Int) < ((((wN c (Int.toNat a) (Int.toNat c.layers)).1).length : Nat) : Int) := by omega
          have kx6 : ((wN c (Int.toNat a) (Int.toNat c.layers)).1)[Int.toNat b]? = some x3 := hx3
          have hgx3 := gi_of kx6
          refine LW.pure rfl rfl (RV.indexAddr s43 rfl rfl hb10 (((H.tab 0 rfl).rowO kx5 hh5).sl.addr_ kx6)) ?_
          refine LW.pure rfl rfl (RV.load1 k3 rfl (((H.tab 0 rfl).rowO kx5 hh5).sl.at_ kx6) rfl) ?_
          refine LW.pure rfl rfl (RV.assign rfl) ?_
          refine LW.pure rfl rfl (RV.assign rfl) ?_
          refine LW.pure rfl rfl (RV.assign rfl) ?_
          refine LW.nil (hK10 _ _ ?_)
          refine CW.ret ?_
          refine ⟨_, (ResOK.three rfl rfl rfl), ?_⟩
          refine ⟨?_, R0⟩
          · simp [rfixed, h1, hgx1, h2, hgx2, h3, hgx3, hgx4, h4, hgx3]
      ·
        have h3 := (Bool.not_eq_true' _).mp h3
        refine DW.fixN rfl rfl rfl rfl rfl rfl ?_
        refine DW.fixN rfl rfl rfl rfl rfl rfl ?_
        refine DW.fixN rfl rfl rfl rfl rfl rfl ?_
        refine DW.fixN rfl rfl rfl rfl rfl rfl ?_
        refine DW.fixN rfl rfl rfl rfl rfl rfl ?_
        refine DW.fixN rfl rfl rfl rfl rfl rfl ?_
        refine DW.fixN rfl rfl rfl rfl rfl rfl ?_
        refine DW.fixN rfl rfl rfl rfl rfl rfl ?_
        refine DW.fixN rfl rfl rfl rfl rfl rfl ?_
        refine DW.fixN rfl rfl rfl rfl rfl rfl ?_
        refine DW.fixN rfl rfl rfl rfl rfl rfl ?_
        refine DW.fixN rfl rfl rfl rfl rfl rfl ?_
        refine DW.fixN rfl rfl rfl rfl rfl rfl ?_
        refine DW.fixN rfl rfl rfl rfl rfl rfl ?_
        refine DW.fixN rfl rfl rfl rfl rfl rfl ?_
        refine DW.fixN rfl rfl rfl rfl rfl rfl ?_
        refine DW.fix rfl rfl rfl (fun _ EQ => RV.pickT rfl rfl) ?_
        refine DW.nil (hK8 _ _ ?_)
        refine CW.cond rfl (fun _ => ?_) (fun h => by cases h)
        refine CW.seq fun K11 hK11 => ?_
        refine CW.region ?_
        refine LW.pure rfl rfl (RV.assign rfl) ?_
        refine LW.pure rfl rfl (RV.assign rfl) ?_
        refine LW.pure rfl rfl (RV.assign rfl) ?_
        refine LW.nil (hK11 _ _ ?_)
        refine CW.ret ?_
        refine ⟨_, (ResOK.three rfl rfl rfl), ?_⟩
        refine ⟨?_, R0⟩
        · simp [rfixed, h1, hgx1, h2, hgx2, h3]
    ·
      have h2 := (Bool.not_eq_true' _).mp h2
      refine DW.fixN rfl rfl rfl rfl rfl rfl ?_
      refine DW.fixN rfl rfl rfl rfl rfl rfl ?_
      refine DW.fixN rfl rfl rfl rfl rfl rfl ?_
      refine DW.fixN rfl rfl rfl rfl rfl rfl ?_
      refine DW.fixN rfl rfl rfl rfl rfl rfl ?_
      refine DW.fixN rfl rfl rfl rfl rfl rfl ?_
      refine DW.fixN rfl rfl rfl rfl rfl rfl ?_
      refine DW.fixN rfl rfl rfl rfl rfl rfl ?_
      refine DW.fix rfl rfl rfl (fun _ EQ => RV.pickT rfl rfl) ?_
      refine DW.fix rfl rfl rfl (fun _ EQ => RV.move rfl) ?_
      refine DW.fixN rfl rfl rfl rfl rfl rfl ?_
      refine DW.fixN rfl rfl rfl rfl rfl rfl ?_
      refine DW.fixN rfl rfl rfl rfl rfl rfl ?_
      refine DW.fixN rfl rfl rfl rfl rfl rfl ?_
      refine DW.fixN rfl rfl rfl rfl rfl rfl ?_
      refine DW.fixN rfl rfl rfl rfl rfl rfl ?_
      refine DW.fixN rfl rfl rfl rfl rfl rfl ?_
      refine DW.fixN rfl rfl rfl rfl rfl rfl ?_
      refine DW.fixN rfl rfl rfl rfl rfl rfl ?_
      refine DW.fixN rfl rfl rfl rfl rfl rfl ?_
      refine DW.fixN rfl rfl rfl rfl rfl rfl ?_
      refine DW.fixN rfl rfl rfl rfl rfl rfl ?_
      refine DW.fixN rfl rfl rfl rfl rfl rfl ?_
      refine DW.fixN rfl rfl rfl rfl rfl rfl ?_
      refine DW.fixN rfl rfl rfl rfl rfl rfl ?_
      refine DW.fixN rfl rfl rfl rfl rfl rfl ?_
      refine DW.fix rfl rfl rfl (fun _ EQ => RV.pickT rfl rfl) ?_
      refine DW.nil (hK8 _ _ ?_)
      refine CW.cond rfl (fun _ => ?_) (fun h => by cases h)
      refine CW.seq fun K12 hK12 => ?_
      refine CW.region ?_
      refine LW.pure rfl rfl (RV.assign rfl) ?_
      refine LW.pure rfl rfl (RV.assign rfl) ?_
      refine LW.pure rfl rfl (RV.assign rfl) ?_
      refine LW.nil (hK12 _ _ ?_)
      refine CW.ret ?_
      refine ⟨_, (ResOK.three rfl rfl rfl), ?_⟩
      refine ⟨?_, R0⟩
      · simp [rfixed, h1, hgx1, h2]

set_option maxRecDepth 20000 in
theorem ref_Follows {c : Core} {A_c_bounds : Option Addr} {c_c_bounds : Nat} {x : Bound} {w : World} (h_c_bounds : Sl w A_c_bounds c_c_bounds 3 (c.bounds.map encB)) : Calls Try.prog 20 #[.agg #[.int .i64 c.layers, .slice A_c_bounds c.bounds.length c_c_bounds], .agg #[.int .i64 x.a, .int .i64 x.b, .int .i64 x.most]] w (Ret w (.tuple #[.bool ((rfollows c x).1), .int .i64 ((rfollows c x).2)])) := by
  refine calls_of_cw (args := [.agg #[.int .i64 c.layers, .slice A_c_bounds c.bounds.length c_c_bounds], .agg #[.int .i64 x.a, .int .i64 x.b, .int .i64 x.most]]) Try.func20 rfl rfl rfl rfl ?_
  have H := Hp.start w
  have R0 := H.ext
  refine CW.seq fun K1 hK1 => ?_
  refine CW.region ?_
  refine LW.go rfl rfl (OW.box rfl fun b1 w1 N1 => ?_)
  replace H : Hp w w1 [.blk b1 24 [.int .i64 c.layers, .slice A_c_bounds c.bounds.length c_c_bounds]] := H.new N1 N1.blk
  replace R0 := H.ext
  refine LW.go rfl rfl (OW.box rfl fun b2 w2 N2 => ?_)
  replace H : Hp w w2 [.blk b2 26 [.int .i64 x.a, .int .i64 x.b, .int .i64 x.most], .blk b1 24 [.int .i64 c.layers, .slice A_c_bounds c.bounds.length c_c_bounds]] := H.new N2 N2.blk
  replace R0 := H.ext
  refine LW.pure rfl rfl (RV.assign rfl) ?_
  refine LW.pure rfl rfl (RV.assign rfl) ?_
  refine LW.nil (hK1 _ _ ?_)
  refine CW.seq fun K2 hK2 => ?_
  refine CW.seq fun K3 hK3 => ?_
  refine CW.region ?_
  refine LW.pure rfl rfl (RV.loadA [.int .i64 c.layers, .slice A_c_bounds c.bounds.length c_c_bounds] k24 rfl (H.blk 1 rfl).cells rfl rfl) ?_
  refine LW.go rfl rfl (OW.call c37 rfl (ref_Validate (c := c) (h_c_bounds.ext R0)) ?_)
  rintro _ w3 ⟨rfl, E1⟩
  refine ⟨_, rfl, ?_⟩
  replace H := H.grow E1
  replace R0 := H.ext
  refine LW.pure rfl rfl (RV.assign rfl) ?_
  refine LW.nil (hK3 _ _ ?_)
  refine CW.seq fun K4 hK4 => ?_
  refine CW.region ?_
  refine LW.pure rfl rfl (RV.move rfl) ?_
  refine LW.pure rfl rfl (RV.nei rfl rfl) ?_
  refine LW.nil (hK4 _ _ ?_)
  refine CW.cond rfl (fun h1 => ?_) (fun h1 => ?_)
  ·
    have h1 := (Bool.not_eq_true' _).mp h1
    have h1 := of_decide_eq_false h1
    refine CW.seq fun K5 hK5 => ?_
    refine CW.region ?_
    refine LW.pure rfl rfl (RV.move rfl) ?_
    refine LW.pure rfl rfl (RV.assign rfl) ?_
    refine LW.pure rfl rfl (RV.assign rfl) ?_
    refine LW.nil (hK5 _ _ ?_)
    refine CW.ret ?_
    refine ⟨_, (ResOK.two rfl rfl), ?_⟩
    refine ⟨?_, R0⟩
    · simp [rfollows, h1]
  ·
    have h1 := (Bool.not_eq_false' _).mp h1
    have h1 := of_decide_eq_true h1
    have hvo := validate_ok h1
    refine CW.skip (hK2 _ _ ?_)
    refine CW.seq fun K6 hK6 => ?_
    refine CW.seq fun K7 hK7 => ?_
    refine CW.region ?_
    refine LW.pure rfl rfl (RV.fieldAddr f26_0 rfl) ?_
    refine LW.pure rfl rfl (RV.load1 k3 rfl ((H.blk 0 rfl).cells.off 0) rfl) ?_
    refine LW.pure rfl rfl (RV.fieldAddr f24_0 rfl) ?_
    refine LW.pure rfl rfl (RV.load1 k3 rfl ((H.blk 1 rfl).cells.off 0) rfl) ?_
    refine LW.pure rfl rfl (RV.sub rfl rfl (by omega)) ?_
    refine LW.go rfl rfl (OW.call c62 rfl (ref_within (n := x.a) (lo := 0) (hi := c.layers - 1)) ?_)
    rintro _ w4 ⟨rfl, E2⟩
    refine ⟨_, rfl, ?_⟩
    replace H := H.grow E2
    replace R0 := H.ext
    refine LW.pure rfl rfl (RV.not rfl) ?_
    refine LW.pure rfl rfl (RV.move rfl) ?_
    cases h2 : !(within x.a 0 (c.layers - 1))
    ·
      have h2 := (Bool.not_eq_false' _).mp h2
      refine LW.pureY rfl rfl rfl rfl (RV.fieldAddr f26_1 rfl) ?_
      refine LW.pureY rfl rfl rfl rfl (RV.load1 k3 rfl ((H.blk 0 rfl).cells.off 1) rfl) ?_
      refine LW.pureY rfl rfl rfl rfl (RV.fieldAddr f24_0 rfl) ?_
      refine LW.pureY rfl rfl rfl rfl (RV.load1 k3 rfl ((H.blk 1 rfl).cells.off 0) rfl) ?_
      refine LW.pureY rfl rfl rfl rfl (RV.sub rfl rfl (by omega)) ?_
      refine LW.yes rfl rfl rfl rfl (OW.call c62 rfl (ref_within (n := x.b) (lo := 0) (hi := c.layers - 1)) ?_)
      rintro _ w5 ⟨rfl, E3⟩
      refine ⟨_, rfl, ?_⟩
      replace H := H.grow E3
      replace R0 := H.ext
      refine LW.pureY rfl rfl rfl rfl (RV.not rfl) ?_
      refine LW.pure rfl rfl (RV.pickF rfl rfl) ?_
      refine LW.nil (hK7 _ _ ?_)
      refine CW.cond rfl (fun h3 => ?_) (fun h3 => ?_)
      ·
        have h3 := (Bool.not_eq_true' _).mp h3
        refine CW.seq fun K8 hK8 => ?_
        refine CW.region ?_
        refine LW.pure rfl rfl (RV.assign rfl) ?_
        refine LW.pure rfl rfl (RV.assign rfl) ?_
        refine LW.nil (hK8 _ _ ?_)
        refine CW.ret ?_
        refine ⟨_, (ResOK.two rfl rfl), ?_⟩
        refine ⟨?_, R0⟩
        · simp [rfollows, h1, h2, h3]
      ·
        have h3 := (Bool.not_eq_false' _).mp h3
        refine CW.skip (hK6 _ _ ?_)
        refine CW.seq fun K9 hK9 => ?_
        refine CW.seq fun K10 hK10 => ?_
        refine CW.region ?_
        refine LW.pure rfl rfl (RV.loadA [.int .i64 x.a, .int .i64 x.b, .int .i64 x.most] k26 rfl (H.blk 0 rfl).cells rfl rfl) ?_
        refine LW.pure rfl rfl (RV.fieldAddr f24_0 rfl) ?_
        refine LW.pure rfl rfl (RV.load1 k3 rfl ((H.blk 1 rfl).cells.off 0) rfl) ?_
        refine LW.go rfl rfl (OW.call c63 rfl (ref_isBound (x := x) (layers := c.layers) (by omega)) ?_)
        rintro _ w6 ⟨rfl, E4⟩
        refine ⟨_, rfl, ?_⟩
        replace H := H.grow E4
        replace R0 := H.ext
        refine LW.pure rfl rfl (RV.not rfl) ?_
        refine LW.nil (hK10 _ _ ?_)
        refine CW.cond rfl (fun h4 => ?_) (fun h4 => ?_)
        ·
          have h4 := (Bool.not_eq_true' _).mp h4
          refine CW.seq fun K11 hK11 => ?_
          refine CW.region ?_
          refine LW.pure rfl rfl (RV.assign rfl) ?_
          refine LW.pure rfl rfl (RV.assign rfl) ?_
          refine LW.nil (hK11 _ _ ?_)
          refine CW.ret ?_
          refine ⟨_, (ResOK.two rfl rfl), ?_⟩
          refine ⟨?_, R0⟩
          · simp [rfollows, h1, h2, h3, h4]
        ·
          have h4 := (Bool.not_eq_false' _).mp h4
          refine CW.skip (hK9 _ _ ?_)
          refine CW.seq fun K12 hK12 => ?_
          refine CW.region ?_
          refine LW.pure rfl rfl (RV.loadA [.int .i64 c.layers, .slice A_c_bounds c.bounds.length c_c_bounds] k24 rfl (H.blk 1 rfl).cells rfl rfl) ?_
          refine LW.pure rfl rfl (RV.fieldAddr f26_0 rfl) ?_
          refine LW.pure rfl rfl (RV.load1 k3 rfl ((H.blk 0 rfl).cells.off 0) rfl) ?_
          refine LW.pure rfl rfl (RV.fieldAddr f26_1 rfl) ?_
          refine LW.pure rfl rfl (RV.load1 k3 rfl ((H.blk 0 rfl).cells.off 1) rfl) ?_
          refine LW.go rfl rfl (OW.call c22 rfl (ref_Tightest (c := c) (a := x.a) (b := x.b) (h_c_bounds.ext R0)) ?_)
          rintro _ w7 ⟨rfl, E5⟩
          refine ⟨_, rfl, ?_⟩
          replace H := H.grow E5
          replace R0 := H.ext
          refine LW.pure rfl rfl (RV.move rfl) ?_
          refine LW.pure rfl rfl (RV.extract rfl rfl) ?_
          refine LW.pure rfl rfl (RV.extract rfl rfl) ?_
          refine LW.pure rfl rfl (RV.extract rfl rfl) ?_
          refine LW.pure rfl rfl (RV.assign rfl) ?_
          refine LW.pure rfl rfl (RV.assign rfl) ?_
          refine LW.pure rfl rfl (RV.assign rfl) ?_
          refine LW.nil (hK12 _ _ ?_)
          refine CW.seq fun K13 hK13 => ?_
          refine CW.region ?_
          refine LW.pure rfl rfl (RV.move rfl) ?_
          refine LW.pure rfl rfl (RV.move rfl) ?_
          cases h5 : (rtightest c x.a x.b).2.1
          ·
            refine LW.no rfl rfl rfl rfl rfl ?_
            refine LW.no rfl rfl rfl rfl rfl ?_
            refine LW.no rfl rfl rfl rfl rfl ?_
            refine LW.no rfl rfl rfl rfl rfl ?_
            refine LW.pure rfl rfl (RV.pickF rfl rfl) ?_
            refine LW.pure rfl rfl (RV.move rfl) ?_
            refine LW.pure rfl rfl (RV.assign rfl) ?_
            refine LW.pure rfl rfl (RV.assign rfl) ?_
            refine LW.nil (hK13 _ _ ?_)
            refine CW.ret ?_
            refine ⟨_, (ResOK.two rfl rfl), ?_⟩
            refine ⟨?_, R0⟩
            · simp [rfollows, h1, h2, h3, h4, h5]
          ·
            refine LW.pureY rfl rfl rfl rfl (RV.move rfl) ?_
            refine LW.pureY rfl rfl rfl rfl (RV.fieldAddr f26_2 rfl) ?_
            refine LW.pureY rfl rfl rfl rfl (RV.load1 k3 rfl ((H.blk 0 rfl).cells.off 2) rfl) ?_
            refine LW.pureY rfl rfl rfl rfl (RV.leq rfl rfl) ?_
            refine LW.pure rfl rfl (RV.pickT rfl rfl) ?_
            refine LW.pure rfl rfl (RV.move rfl) ?_
            refine LW.pure rfl rfl (RV.assign rfl) ?_
            refine LW.pure rfl rfl (RV.assign rfl) ?_
            refine LW.nil (hK13 _ _ ?_)
            refine CW.ret ?_
            refine ⟨_, (ResOK.two rfl rfl), ?_⟩
            refine ⟨?_, R0⟩
            · simp [rfollows, h1, h2, h3, h4, h5]
    ·
      have h2 := (Bool.not_eq_true' _).mp h2
      refine LW.no rfl rfl rfl rfl rfl ?_
      refine LW.no rfl rfl rfl rfl rfl ?_
      refine LW.no rfl rfl rfl rfl rfl ?_
      refine LW.no rfl rfl rfl rfl rfl ?_
      refine LW.no rfl rfl rfl rfl rfl ?_
      refine LW.no rfl rfl rfl rfl rfl ?_
      refine LW.no rfl rfl rfl rfl rfl ?_
      refine LW.pure rfl rfl (RV.pickT rfl rfl) ?_
      refine LW.nil (hK7 _ _ ?_)
      refine CW.cond rfl (fun _ => ?_) (fun h => by cases h)
      refine CW.seq fun K14 hK14 => ?_
      refine CW.region ?_
      refine LW.pure rfl rfl (RV.assign rfl) ?_
      refine LW.pure rfl rfl (RV.assign rfl) ?_
      refine LW.nil (hK14 _ _ ?_)
      refine CW.ret ?_
      refine ⟨_, (ResOK.two rfl rfl), ?_⟩
      refine ⟨?_, R0⟩
      · simp [rfollows, h1, h2]

end Go.Core
