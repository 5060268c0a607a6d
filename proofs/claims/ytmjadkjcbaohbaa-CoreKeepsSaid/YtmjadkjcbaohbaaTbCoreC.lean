/- Lemmas and walks that the proof of this claim uses: TbCoreC. -/
import Derived.Test.YtmjadkjcbaohbaaTbCoreSpec2
import Derived.Test.YtmjadkjcbaohbaaProg
import Derived.KernelRfl
namespace Go.Core
open Go.Tb Go.Proofs
set_option linter.unusedVariables false
set_option linter.unusedSimpArgs false

theorem c36 : callable Try.prog 36 = true := by kernel_rfl
theorem c68 : callable Try.prog 68 = true := by kernel_rfl
theorem c72 : callable Try.prog 72 = true := by kernel_rfl
theorem c91 : callable Try.prog 91 = true := by kernel_rfl
theorem c92 : callable Try.prog 92 = true := by kernel_rfl
theorem k24 : tyK Try.prog 24 = some (true, 2) := by kernel_rfl
theorem k76 : tyK Try.prog 76 = some (false, 1) := by kernel_rfl
theorem s69 : tyS Try.prog 69 = some (76, 1, 24, [.slice none 0 0]) := by kernel_rfl
theorem s76 : tyS Try.prog 76 = some (75, 2, 16, [.bool false, .int .i64 0]) := by kernel_rfl


set_option maxRecDepth 20000 in
theorem core_clashes {c : Core} {A_c_bounds : Option Addr} {c_c_bounds : Nat} {w : World} (h_c_bounds : Sl w A_c_bounds c_c_bounds 3 (c.bounds.map encB)) (hv : validate c = 0) : Calls Try.prog 68 #[.agg #[.int .i64 c.layers, .slice A_c_bounds c.bounds.length c_c_bounds]] w (Ret w (.bool (clashes c))) := by
  refine calls_of_cw (args := [.agg #[.int .i64 c.layers, .slice A_c_bounds c.bounds.length c_c_bounds]]) Try.func68 rfl rfl rfl rfl ?_
  have H := Hp.start w
  have R0 := H.ext
  refine CW.seq fun K1 hK1 => ?_
  refine CW.region ?_
  refine LW.go rfl rfl (OW.box rfl fun b1 w1 N1 => ?_)
  replace H : Hp w w1 [.blk b1 24 [.int .i64 c.layers, .slice A_c_bounds c.bounds.length c_c_bounds]] := H.new N1 N1.blk
  replace R0 := H.ext
  refine LW.pure rfl rfl (RV.assign rfl) ?_
  refine LW.nil (hK1 _ _ ?_)
  refine CW.seq fun K2 hK2 => ?_
  refine CW.region ?_
  refine LW.pure rfl rfl (RV.loadA [.int .i64 c.layers, .slice A_c_bounds c.bounds.length c_c_bounds] k24 rfl (H.blk 0 rfl).cells rfl rfl) ?_
  refine LW.go rfl rfl (OW.call c72 rfl (core_relax (c := c) (h_c_bounds.ext R0) (by assumption)) ?_)
  rintro _ w2 ⟨A1_0, c1_0, A1_1, c1_1, rfl, E1⟩
  refine ⟨_, rfl, ?_⟩
  replace H : Hp w w2 [.own A1_0 c1_0 3 1 (List.map encI (((relax c).1))), .own A1_1 c1_1 3 1 (List.map encI (((relax c).2.1))), .blk b1 24 [.int .i64 c.layers, .slice A_c_bounds c.bounds.length c_c_bounds]] := H.append E1
  replace R0 := H.ext
  refine LW.pure rfl rfl (RV.move rfl) ?_
  refine LW.pure rfl rfl (RV.extract rfl rfl) ?_
  refine LW.pure rfl rfl (RV.extract rfl rfl) ?_
  refine LW.pure rfl rfl (RV.extract rfl rfl) ?_
  refine LW.pure rfl rfl (RV.assign rfl) ?_
  refine LW.pure rfl rfl (RV.assign rfl) ?_
  refine LW.pure rfl rfl (RV.assign rfl) ?_
  refine LW.nil (hK2 _ _ ?_)
  refine CW.seq fun K3 hK3 => ?_
  refine CW.region ?_
  refine LW.pure rfl rfl (RV.move rfl) ?_
  refine LW.pure rfl rfl (RV.geq rfl rfl) ?_
  refine LW.pure rfl rfl (RV.assign rfl) ?_
  refine LW.nil (hK3 _ _ ?_)
  refine CW.ret ?_
  refine ⟨_, (ResOK.one rfl), ?_⟩
  refine ⟨?_, R0⟩
  · simp [clashes]

set_option maxRecDepth 20000 in
theorem core_IsPossible {c : Core} {A_c_bounds : Option Addr} {c_c_bounds : Nat} {w : World} (h_c_bounds : Sl w A_c_bounds c_c_bounds 3 (c.bounds.map encB)) : Calls Try.prog 34 #[.agg #[.int .i64 c.layers, .slice A_c_bounds c.bounds.length c_c_bounds]] w (Ret w (.tuple #[.bool ((if validate c = 0 then !clashes c else false)), .int .i64 (validate c)])) := by
  refine calls_of_cw (args := [.agg #[.int .i64 c.layers, .slice A_c_bounds c.bounds.length c_c_bounds]]) Try.func34 rfl rfl rfl rfl ?_
  have H := Hp.start w
  have R0 := H.ext
  refine CW.seq fun K1 hK1 => ?_
  refine CW.region ?_
  refine LW.go rfl rfl (OW.box rfl fun b1 w1 N1 => ?_)
  replace H : Hp w w1 [.blk b1 24 [.int .i64 c.layers, .slice A_c_bounds c.bounds.length c_c_bounds]] := H.new N1 N1.blk
  replace R0 := H.ext
  refine LW.pure rfl rfl (RV.assign rfl) ?_
  refine LW.pure rfl rfl (RV.assign rfl) ?_
  refine LW.nil (hK1 _ _ ?_)
  refine CW.seq fun K2 hK2 => ?_
  refine CW.seq fun K3 hK3 => ?_
  refine CW.region ?_
  refine LW.pure rfl rfl (RV.loadA [.int .i64 c.layers, .slice A_c_bounds c.bounds.length c_c_bounds] k24 rfl (H.blk 0 rfl).cells rfl rfl) ?_
  refine LW.go rfl rfl (OW.call c36 rfl (core_Validate (c := c) (h_c_bounds.ext R0)) ?_)
  rintro _ w2 ⟨rfl, E1⟩
  refine ⟨_, rfl, ?_⟩
  replace H := H.grow E1
  replace R0 := H.ext
  refine LW.pure rfl rfl (RV.assign rfl) ?_
  refine LW.nil (hK3 _ _ ?_)
  refine CW.seq fun K4 hK4 => ?_
  refine CW.region ?_
  refine LW.pure rfl rfl (RV.move rfl) ?_
  refine LW.pure rfl rfl (RV.nei rfl rfl) ?_
  refine LW.nil (hK4 _ _ ?_)
  refine CW.cond rfl (fun h1 => ?_) (fun h1 => ?_)
  ·
    have h1 := (Bool.not_eq_true' _).mp h1
    have h1 := of_decide_eq_false h1
    refine CW.seq fun K5 hK5 => ?_
    refine CW.region ?_
    refine LW.pure rfl rfl (RV.move rfl) ?_
    refine LW.pure rfl rfl (RV.assign rfl) ?_
    refine LW.pure rfl rfl (RV.assign rfl) ?_
    refine LW.nil (hK5 _ _ ?_)
    refine CW.ret ?_
    refine ⟨_, (ResOK.two rfl rfl), ?_⟩
    refine ⟨?_, R0⟩
    · simp [h1]
  ·
    have h1 := (Bool.not_eq_false' _).mp h1
    have h1 := of_decide_eq_true h1
    refine CW.skip (hK2 _ _ ?_)
    refine CW.seq fun K6 hK6 => ?_
    refine CW.region ?_
    refine LW.pure rfl rfl (RV.loadA [.int .i64 c.layers, .slice A_c_bounds c.bounds.length c_c_bounds] k24 rfl (H.blk 0 rfl).cells rfl rfl) ?_
    refine LW.go rfl rfl (OW.call c68 rfl (core_clashes (c := c) (h_c_bounds.ext R0) (by simpa using h1)) ?_)
    rintro _ w3 ⟨rfl, E2⟩
    refine ⟨_, rfl, ?_⟩
    replace H := H.grow E2
    replace R0 := H.ext
    refine LW.pure rfl rfl (RV.not rfl) ?_
    refine LW.pure rfl rfl (RV.assign rfl) ?_
    refine LW.pure rfl rfl (RV.assign rfl) ?_
    refine LW.nil (hK6 _ _ ?_)
    refine CW.ret ?_
    refine ⟨_, (ResOK.two rfl rfl), ?_⟩
    refine ⟨?_, R0⟩
    · simp [h1]

set_option maxRecDepth 20000 in
theorem core_Dates {c : Core} {A_c_bounds : Option Addr} {c_c_bounds : Nat} {w : World} (h_c_bounds : Sl w A_c_bounds c_c_bounds 3 (c.bounds.map encB)) : Calls Try.prog 39 #[.agg #[.int .i64 c.layers, .slice A_c_bounds c.bounds.length c_c_bounds]] w (fun e w' => ∃ (A0 : Option Addr) (c0 : Nat), e = .returned (.tuple #[.slice A0 (((if validate c = 0 ∧ clashes c = false then (relax c).1 else [])).length) c0, .bool ((decide (validate c = 0) && !clashes c)), .int .i64 (validate c)]) ∧ Hp w w' [.own A0 c0 3 1 (List.map encI (((if validate c = 0 ∧ clashes c = false then (relax c).1 else []))))]) := by
  refine calls_of_cw (args := [.agg #[.int .i64 c.layers, .slice A_c_bounds c.bounds.length c_c_bounds]]) Try.func39 rfl rfl rfl rfl ?_
  have H := Hp.start w
  have R0 := H.ext
  refine CW.seq fun K1 hK1 => ?_
  refine CW.region ?_
  refine LW.go rfl rfl (OW.box rfl fun b1 w1 N1 => ?_)
  replace H : Hp w w1 [.blk b1 24 [.int .i64 c.layers, .slice A_c_bounds c.bounds.length c_c_bounds]] := H.new N1 N1.blk
  replace R0 := H.ext
  refine LW.pure rfl rfl (RV.assign rfl) ?_
  refine LW.pure rfl rfl (RV.assign rfl) ?_
  refine LW.pure rfl rfl (RV.assign rfl) ?_
  refine LW.nil (hK1 _ _ ?_)
  refine CW.seq fun K2 hK2 => ?_
  refine CW.seq fun K3 hK3 => ?_
  refine CW.region ?_
  refine LW.pure rfl rfl (RV.loadA [.int .i64 c.layers, .slice A_c_bounds c.bounds.length c_c_bounds] k24 rfl (H.blk 0 rfl).cells rfl rfl) ?_
  refine LW.go rfl rfl (OW.call c36 rfl (core_Validate (c := c) (h_c_bounds.ext R0)) ?_)
  rintro _ w2 ⟨rfl, E1⟩
  refine ⟨_, rfl, ?_⟩
  replace H := H.grow E1
  replace R0 := H.ext
  refine LW.pure rfl rfl (RV.assign rfl) ?_
  refine LW.nil (hK3 _ _ ?_)
  refine CW.seq fun K4 hK4 => ?_
  refine CW.region ?_
  refine LW.pure rfl rfl (RV.move rfl) ?_
  refine LW.pure rfl rfl (RV.nei rfl rfl) ?_
  refine LW.nil (hK4 _ _ ?_)
  refine CW.cond rfl (fun h1 => ?_) (fun h1 => ?_)
  ·
    have h1 := (Bool.not_eq_true' _).mp h1
    have h1 := of_decide_eq_false h1
    refine CW.seq fun K5 hK5 => ?_
    refine CW.region ?_
    refine LW.pure rfl rfl (RV.move rfl) ?_
    refine LW.pure rfl rfl (RV.assign rfl) ?_
    refine LW.pure rfl rfl (RV.assign rfl) ?_
    refine LW.pure rfl rfl (RV.assign rfl) ?_
    refine LW.nil (hK5 _ _ ?_)
    refine CW.ret ?_
    refine ⟨_, (ResOK.three rfl rfl rfl), ?_⟩
    replace H : Hp w w2 [.own none 0 3 1 (List.map encI (([] : List Int))), .blk b1 24 [.int .i64 c.layers, .slice A_c_bounds c.bounds.length c_c_bounds]] := H.nilOwn 3 1
    replace R0 := H.ext
    replace H : Hp w w2 [.own none 0 3 1 (List.map encI (([] : List Int)))] := H.pick [0] (by decide) rfl
    replace R0 := H.ext
    refine ⟨none, 0, ?_, ?_⟩
    · simp [clashes, h1]
    · have e : (if validate c = 0 ∧ clashes c = false then (relax c).1 else []) = [] := by simp [h1]
      rw [e]; exact H
  ·
    have h1 := (Bool.not_eq_false' _).mp h1
    have h1 := of_decide_eq_true h1
    refine CW.skip (hK2 _ _ ?_)
    refine CW.seq fun K6 hK6 => ?_
    refine CW.region ?_
    refine LW.pure rfl rfl (RV.loadA [.int .i64 c.layers, .slice A_c_bounds c.bounds.length c_c_bounds] k24 rfl (H.blk 0 rfl).cells rfl rfl) ?_
    refine LW.go rfl rfl (OW.call c72 rfl (core_relax (c := c) (h_c_bounds.ext R0) (by simpa using h1)) ?_)
    rintro _ w3 ⟨A2_0, c2_0, A2_1, c2_1, rfl, E2⟩
    refine ⟨_, rfl, ?_⟩
    replace H : Hp w w3 [.own A2_0 c2_0 3 1 (List.map encI (((relax c).1))), .own A2_1 c2_1 3 1 (List.map encI (((relax c).2.1))), .blk b1 24 [.int .i64 c.layers, .slice A_c_bounds c.bounds.length c_c_bounds]] := H.append E2
    replace R0 := H.ext
    refine LW.pure rfl rfl (RV.move rfl) ?_
    refine LW.pure rfl rfl (RV.extract rfl rfl) ?_
    refine LW.pure rfl rfl (RV.extract rfl rfl) ?_
    refine LW.pure rfl rfl (RV.extract rfl rfl) ?_
    refine LW.pure rfl rfl (RV.assign rfl) ?_
    refine LW.pure rfl rfl (RV.assign rfl) ?_
    refine LW.pure rfl rfl (RV.assign rfl) ?_
    refine LW.nil (hK6 _ _ ?_)
    refine CW.seq fun K7 hK7 => ?_
    refine CW.seq fun K8 hK8 => ?_
    refine CW.region ?_
    refine LW.pure rfl rfl (RV.move rfl) ?_
    refine LW.pure rfl rfl (RV.geq rfl rfl) ?_
    refine LW.nil (hK8 _ _ ?_)
    refine CW.cond rfl (fun h2 => ?_) (fun h2 => ?_)
    ·
      have h2 := of_decide_eq_true h2
      refine CW.seq fun K9 hK9 => ?_
      refine CW.region ?_
      refine LW.pure rfl rfl (RV.assign rfl) ?_
      refine LW.pure rfl rfl (RV.assign rfl) ?_
      refine LW.pure rfl rfl (RV.assign rfl) ?_
      refine LW.nil (hK9 _ _ ?_)
      refine CW.ret ?_
      refine ⟨_, (ResOK.three rfl rfl rfl), ?_⟩
      replace H : Hp w w3 [.own none 0 3 1 (List.map encI (([] : List Int))), .own A2_0 c2_0 3 1 (List.map encI (((relax c).1))), .own A2_1 c2_1 3 1 (List.map encI (((relax c).2.1))), .blk b1 24 [.int .i64 c.layers, .slice A_c_bounds c.bounds.length c_c_bounds]] := H.nilOwn 3 1
      replace R0 := H.ext
      replace H : Hp w w3 [.own none 0 3 1 (List.map encI (([] : List Int)))] := H.pick [0] (by decide) rfl
      replace R0 := H.ext
      refine ⟨none, 0, ?_, ?_⟩
      · simp [clashes, h1, h2]
      · have e : (if validate c = 0 ∧ clashes c = false then (relax c).1 else []) = [] := by simp [h1, h2, clashes]
        rw [e]; exact H
    ·
      have h2 := of_decide_eq_false h2
      refine CW.skip (hK7 _ _ ?_)
      refine CW.seq fun K10 hK10 => ?_
      refine CW.region ?_
      refine LW.pure rfl rfl (RV.move rfl) ?_
      refine LW.pure rfl rfl (RV.assign rfl) ?_
      refine LW.pure rfl rfl (RV.assign rfl) ?_
      refine LW.pure rfl rfl (RV.assign rfl) ?_
      refine LW.nil (hK10 _ _ ?_)
      refine CW.ret ?_
      refine ⟨_, (ResOK.three rfl rfl rfl), ?_⟩
      replace H : Hp w w3 [.own A2_0 c2_0 3 1 (List.map encI (((relax c).1)))] := H.pick [0] (by decide) rfl
      replace R0 := H.ext
      refine ⟨A2_0, c2_0, ?_, ?_⟩
      · simp [clashes, h1, h2]
      · have e : (if validate c = 0 ∧ clashes c = false then (relax c).1 else []) = (relax c).1 := by simp [h1, h2, clashes]
        rw [e]; exact H

set_option maxRecDepth 20000 in
theorem core_layers {c : Core} {A_c_bounds : Option Addr} {c_c_bounds : Nat} {l : List Int} {A_l : Option Addr} {c_l : Nat} {w : World} (h_c_bounds : Sl w A_c_bounds c_c_bounds 3 (c.bounds.map encB)) (h_l : Sl w A_l c_l 1 (l.map encI)) : Calls Try.prog 58 #[.agg #[.int .i64 c.layers, .slice A_c_bounds c.bounds.length c_c_bounds], .slice A_l l.length c_l] w (Ret w (.int .i64 (layersE c l))) := by
  refine calls_of_cw (args := [.agg #[.int .i64 c.layers, .slice A_c_bounds c.bounds.length c_c_bounds], .slice A_l l.length c_l]) Try.func58 rfl rfl rfl rfl ?_
  have H := Hp.start w
  have R0 := H.ext
  have hmx := h_l.max
  refine CW.seq fun K1 hK1 => ?_
  refine CW.region ?_
  refine LW.go rfl rfl (OW.box rfl fun b1 w1 N1 => ?_)
  replace H : Hp w w1 [.blk b1 24 [.int .i64 c.layers, .slice A_c_bounds c.bounds.length c_c_bounds]] := H.new N1 N1.blk
  replace R0 := H.ext
  refine LW.pure rfl rfl (RV.assign rfl) ?_
  refine LW.nil (hK1 _ _ ?_)
  refine CW.seq fun K2 hK2 => ?_
  refine CW.seq fun K3 hK3 => ?_
  refine CW.region ?_
  refine LW.pure rfl rfl (RV.loadA [.int .i64 c.layers, .slice A_c_bounds c.bounds.length c_c_bounds] k24 rfl (H.blk 0 rfl).cells rfl rfl) ?_
  refine LW.go rfl rfl (OW.call c36 rfl (core_Validate (c := c) (h_c_bounds.ext R0)) ?_)
  rintro _ w2 ⟨rfl, E1⟩
  refine ⟨_, rfl, ?_⟩
  replace H := H.grow E1
  replace R0 := H.ext
  refine LW.pure rfl rfl (RV.assign rfl) ?_
  refine LW.nil (hK3 _ _ ?_)
  refine CW.seq fun K4 hK4 => ?_
  refine CW.region ?_
  refine LW.pure rfl rfl (RV.move rfl) ?_
  refine LW.pure rfl rfl (RV.nei rfl rfl) ?_
  refine LW.nil (hK4 _ _ ?_)
  refine CW.cond rfl (fun h1 => ?_) (fun h1 => ?_)
  ·
    have h1 := (Bool.not_eq_true' _).mp h1
    have h1 := of_decide_eq_false h1
    refine CW.seq fun K5 hK5 => ?_
    refine CW.region ?_
    refine LW.pure rfl rfl (RV.move rfl) ?_
    refine LW.pure rfl rfl (RV.assign rfl) ?_
    refine LW.nil (hK5 _ _ ?_)
    refine CW.ret ?_
    refine ⟨_, (ResOK.one rfl), ?_⟩
    refine ⟨?_, R0⟩
    · simp [layersE, h1]
  ·
    have h1 := (Bool.not_eq_false' _).mp h1
    have h1 := of_decide_eq_true h1
    have hvo := validate_ok (c := c) (by simpa using h1)
    refine CW.skip (hK2 _ _ ?_)
    refine CW.seq fun K6 hK6 => ?_
    refine CW.seq fun K7 hK7 => ?_
    refine CW.region ?_
    refine LW.pure rfl rfl (RV.move rfl) ?_
    refine LW.pure rfl rfl (RV.len s43 rfl) ?_
    refine LW.pure rfl rfl (RV.move rfl) ?_
    refine LW.nil (hK7 _ _ ?_)
    refine CW.block ?_
    refine CW.loop (fun meas ρ wl1 => ∃ (i : Nat), meas = l.length - i ∧ ρ = [(2, .pointer (some (⟨b1, 0, none⟩))), (13, .slice A_l l.length c_l), (14, .int .i64 (((l.length : Nat) : Int))), (15, .int .i64 (↑i))] ∧ Hp w wl1 [.blk b1 24 [.int .i64 c.layers, .slice A_c_bounds c.bounds.length c_c_bounds]] ∧ (i ≤ l.length ∧ ((l.take i).all (fun n => within n 0 (c.layers - 1)) = true))) (l.length - 0) ⟨_, ?_, 0, rfl, rfl, ?_, ?_⟩ ?_
    · exact ⟨rfl, rfl, rfl, look_int rfl (by first | rfl | omega | (simp; omega)), trivial⟩
    · exact H
    · simp
    rintro _ _ wl1 ⟨i, rfl, rfl, H, hI1⟩
    have R0 := H.ext
    refine CW.seq fun K8 hK8 => ?_
    refine CW.region ?_
    refine LW.pure rfl rfl (RV.lss rfl rfl) ?_
    refine LW.nil (hK8 _ _ ?_)
    refine CW.seq fun K9 hK9 => ?_
    refine CW.cond rfl (fun h2 => ?_) (fun h2 => ?_)
    ·
      have h2 := of_decide_eq_true h2
      refine CW.skip (hK9 _ _ ?_)
      refine CW.seq fun K10 hK10 => ?_
      refine CW.block ?_
      refine CW.seq fun K11 hK11 => ?_
      refine CW.region ?_
      have hb1 : 0 ≤ ((↑i) : Int) ∧ ((↑i) : Int) < ((l.length : Nat) : Int) := by omega
      obtain ⟨x1, hx1⟩ := ex_at (l := l) (j := i) (by first | omega | (simp; omega))
      refine LW.pure rfl rfl (RV.indexAddr s43 rfl rfl hb1 (h_l.addr hb1)) ?_
      refine LW.pure rfl rfl (RV.load1 k3 rfl ((h_l.at_ hx1).ext R0) rfl) ?_
      refine LW.pure rfl rfl (RV.assign rfl) ?_
      refine LW.nil (hK11 _ _ ?_)
      refine CW.seq fun K12 hK12 => ?_
      refine CW.region ?_
      refine LW.pure rfl rfl (RV.move rfl) ?_
      refine LW.pure rfl rfl (RV.fieldAddr f24_0 rfl) ?_
      refine LW.pure rfl rfl (RV.load1 k3 rfl ((H.blk 0 rfl).cells.off 0) rfl) ?_
      refine LW.pure rfl rfl (RV.sub rfl rfl (by omega)) ?_
      refine LW.go rfl rfl (OW.call c70 rfl (core_within (n := x1) (lo := 0) (hi := c.layers - 1)) ?_)
      rintro _ w3 ⟨rfl, E2⟩
      refine ⟨_, rfl, ?_⟩
      replace H := H.grow E2
      replace R0 := H.ext
      refine LW.pure rfl rfl (RV.not rfl) ?_
      refine LW.nil (hK12 _ _ ?_)
      refine CW.cond rfl (fun h3 => ?_) (fun h3 => ?_)
      ·
        have h3 := (Bool.not_eq_true' _).mp h3
        refine CW.seq fun K13 hK13 => ?_
        refine CW.region ?_
        refine LW.pure rfl rfl (RV.assign rfl) ?_
        refine LW.nil (hK13 _ _ ?_)
        refine CW.ret ?_
        refine ⟨_, (ResOK.one rfl), ?_⟩
        refine ⟨?_, R0⟩
        · simp [layersE, h1, all_false_at (p := fun n => within n 0 (c.layers - 1)) hx1 h3]
      ·
        have h3 := (Bool.not_eq_false' _).mp h3
        refine CW.skip (hK10 _ _ ?_)
        refine CW.region ?_
        refine LW.pure rfl rfl (RV.add rfl rfl (by omega)) ?_
        refine LW.pure rfl rfl (RV.move rfl) ?_
        refine LW.nil ?_
        refine ⟨_, ?_, _, ?_, i + 1, rfl, rfl, ?_, ?_⟩
        · omega
        · exact ⟨rfl, rfl, rfl, look_int rfl (by first | rfl | omega | (simp; omega)), trivial⟩
        · exact H
        · exact ⟨by omega, all_take_succ hx1 hI1.2 h3⟩
    ·
      have h2 := of_decide_eq_false h2
      refine CW.exit (hK6 _ _ ?_)
      refine CW.seq fun K14 hK14 => ?_
      refine CW.region ?_
      refine LW.pure rfl rfl (RV.assign rfl) ?_
      refine LW.nil (hK14 _ _ ?_)
      refine CW.ret ?_
      refine ⟨_, (ResOK.one rfl), ?_⟩
      refine ⟨?_, R0⟩
      · simp only [layersE, h1, all_of_take h2 hI1.2]; simp

set_option maxRecDepth 20000 in
theorem core_table {c : Core} {A_c_bounds : Option Addr} {c_c_bounds : Nat} {p : Nat → Int} {w : World} (h_c_bounds : Sl w A_c_bounds c_c_bounds 3 (c.bounds.map encB)) (hv : validate c = 0) (hp : Pot c p) : Calls Try.prog 81 #[.agg #[.int .i64 c.layers, .slice A_c_bounds c.bounds.length c_c_bounds]] w (fun e w' => ∃ (A0 : Option Addr) (c0 : Nat) (hs0 : List (Option Addr × Nat)), e = .returned (.slice A0 ((table c).length) c0) ∧ Hp w w' [.tab A0 c0 76 hs0 75 2 (encM encT ((table c)))]) := by
  refine calls_of_cw (args := [.agg #[.int .i64 c.layers, .slice A_c_bounds c.bounds.length c_c_bounds]]) Try.func81 rfl rfl rfl rfl ?_
  have H := Hp.start w
  have R0 := H.ext
  have hvo := validate_ok hv
  have hrp : (List.replicate (Int.toNat c.layers) (⟨false, 0⟩ : Tight)).length = Int.toNat c.layers := by simp
  refine CW.seq fun K1 hK1 => ?_
  refine CW.region ?_
  refine LW.go rfl rfl (OW.box rfl fun b1 w1 N1 => ?_)
  replace H : Hp w w1 [.blk b1 24 [.int .i64 c.layers, .slice A_c_bounds c.bounds.length c_c_bounds]] := H.new N1 N1.blk
  replace R0 := H.ext
  refine LW.pure rfl rfl (RV.assign rfl) ?_
  refine LW.nil (hK1 _ _ ?_)
  refine CW.seq fun K2 hK2 => ?_
  refine CW.region ?_
  refine LW.pure rfl rfl (RV.fieldAddr f24_0 rfl) ?_
  refine LW.pure rfl rfl (RV.load1 k3 rfl ((H.blk 0 rfl).cells.off 0) rfl) ?_
  refine LW.go rfl rfl (OW.makeL (enc := (fun (_ : Unit) => [Value.slice none 0 0])) () s69 rfl rfl rfl rfl rfl (by omega) (by omega) (by omega) fun b2 w2 N2 => ?_)
  replace H : Hp w w2 [.own (some ⟨b2, 0, none⟩) (Int.toNat c.layers) 76 1 (List.map (fun (_ : Unit) => [Value.slice none 0 0]) ((List.replicate (Int.toNat c.layers) ()))), .blk b1 24 [.int .i64 c.layers, .slice A_c_bounds c.bounds.length c_c_bounds]] := H.made' (enc := (fun (_ : Unit) => [Value.slice none 0 0])) (l := (List.replicate (Int.toNat c.layers) ())) N2 N2.blk (fun _ => rfl) (by simp) (by first | decide | omega | simp)
  replace R0 := H.ext
  replace H : Hp w w2 [.tab (some ⟨b2, 0, none⟩) (Int.toNat c.layers) 76 (List.replicate (Int.toNat c.layers) (none, 0)) 75 2 (encM encT (List.replicate (Int.toNat c.layers) ([] : List Tight))), .blk b1 24 [.int .i64 c.layers, .slice A_c_bounds c.bounds.length c_c_bounds]] := H.asTab encT 0 75 2 rfl
  replace R0 := H.ext
  refine LW.pure rfl rfl (RV.assign rfl) ?_
  refine LW.nil (hK2 _ _ ?_)
  refine CW.seq fun K3 hK3 => ?_
  refine CW.seq fun K4 hK4 => ?_
  refine CW.region ?_
  refine LW.pure rfl rfl (RV.move rfl) ?_
  refine LW.pure rfl rfl (RV.len s69 rfl) ?_
  refine LW.pure rfl rfl (RV.move rfl) ?_
  refine LW.nil (hK4 _ _ ?_)
  refine CW.block ?_
  refine CW.loop (fun meas ρ wl1 => ∃ (i : Nat) (hsL1_3 : List (Option Addr × Nat)), meas = c.layers.toNat - i ∧ ρ = [(1, .pointer (some (⟨b1, 0, none⟩))), (2, .slice none 0 0), (3, .slice (some ⟨b2, 0, none⟩) (Int.toNat c.layers) (Int.toNat c.layers)), (14, .int .i64 (((Int.toNat c.layers : Nat) : Int))), (15, .int .i64 (↑i))] ∧ Hp w wl1 [.tab (some ⟨b2, 0, none⟩) (Int.toNat c.layers) 76 hsL1_3 75 2 (encM encT (tI c.layers.toNat i)), .blk b1 24 [.int .i64 c.layers, .slice A_c_bounds c.bounds.length c_c_bounds]] ∧ (i ≤ c.layers.toNat)) (c.layers.toNat - 0) ⟨_, ?_, 0, (List.replicate (Int.toNat c.layers) (none, 0)), rfl, rfl, ?_, ?_⟩ ?_
  · exact ⟨rfl, rfl, look_slice rfl (by first | rfl | omega | (simp; done)), rfl, look_int rfl (by first | rfl | omega | (simp; omega)), trivial⟩
  · exact H
  · omega
  rintro _ _ wl1 ⟨i, hsL1_3, rfl, rfl, H, hI1⟩
  have R0 := H.ext
  have htl := tI_len c.layers.toNat i
  refine CW.seq fun K5 hK5 => ?_
  refine CW.region ?_
  refine LW.pure rfl rfl (RV.lss rfl rfl) ?_
  refine LW.nil (hK5 _ _ ?_)
  refine CW.seq fun K6 hK6 => ?_
  refine CW.cond rfl (fun h1 => ?_) (fun h1 => ?_)
  ·
    have h1 := of_decide_eq_true h1
    refine CW.skip (hK6 _ _ ?_)
    refine CW.seq fun K7 hK7 => ?_
    refine CW.block ?_
    refine CW.seq fun K8 hK8 => ?_
    refine CW.region ?_
    refine LW.pure rfl rfl (RV.move rfl) ?_
    refine LW.pure rfl rfl (RV.assign rfl) ?_
    refine LW.nil (hK8 _ _ ?_)
    refine CW.seq fun K9 hK9 => ?_
    refine CW.region ?_
    refine LW.pure rfl rfl (RV.move rfl) ?_
    refine LW.pure rfl rfl (RV.move rfl) ?_
    refine LW.pure rfl rfl (RV.fieldAddr f24_0 rfl) ?_
    refine LW.pure rfl rfl (RV.load1 k3 rfl ((H.blk 1 rfl).cells.off 0) rfl) ?_
    refine LW.go rfl rfl (OW.makeL (enc := encT) (⟨false, 0⟩ : Tight) s76 rfl rfl rfl rfl rfl (by omega) (by omega) (by omega) fun b3 w3 N3 => ?_)
    replace H : Hp w w3 [.own (some ⟨b3, 0, none⟩) (Int.toNat c.layers) 75 2 (List.map encT ((List.replicate (Int.toNat c.layers) (⟨false, 0⟩ : Tight)))), .tab (some ⟨b2, 0, none⟩) (Int.toNat c.layers) 76 hsL1_3 75 2 (encM encT (tI c.layers.toNat i)), .blk b1 24 [.int .i64 c.layers, .slice A_c_bounds c.bounds.length c_c_bounds]] := H.made' (enc := encT) (l := (List.replicate (Int.toNat c.layers) (⟨false, 0⟩ : Tight))) N3 N3.blk (fun _ => rfl) (by simp) (by first | decide | omega | simp)
    replace R0 := H.ext
    have hb1 : 0 ≤ ((↑i) : Int) ∧ ((↑i) : Int) < ((Int.toNat c.layers : Nat) : Int) := by omega
    obtain ⟨x1, hx1⟩ := ex_at (l := tI c.layers.toNat i) (j := i) (by first | omega | (simp; omega))
    obtain ⟨B1, e1, hh1⟩ := (H.tab 1 rfl).hd hx1
    refine LW.pure rfl rfl (RV.indexAddr s69 rfl rfl hb1 ⟨_, rfl⟩) ?_
    refine LW.go rfl rfl (OW.storeO (enc := encH) (vs := [.slice (some ⟨b3, 0, none⟩) (Int.toNat c.layers) (Int.toNat c.layers)]) 0 ((some ⟨b3, 0, none⟩, Int.toNat c.layers), List.map encT ((List.replicate (Int.toNat c.layers) (⟨false, 0⟩ : Tight)))) k76 rfl rfl (H.tab 1 rfl).outer (fun _ => rfl) rfl ((H.tab 1 rfl).zipAt hx1 hh1) rfl rfl (by decide) rfl (by simp [encH, over]) fun w4 M1 O1 => ?_)
    replace H : Hp w w4 [.tab (some ⟨b2, 0, none⟩) (Int.toNat c.layers) 76 ((hsL1_3.set i (some ⟨b3, 0, none⟩, Int.toNat c.layers))) 75 2 (encM encT (((tI c.layers.toNat i).set i ((List.replicate (Int.toNat c.layers) (⟨false, 0⟩ : Tight)))))), .blk b1 24 [.int .i64 c.layers, .slice A_c_bounds c.bounds.length c_c_bounds]] := H.tabSet 1 0 (by decide) rfl rfl (lt_of_at hx1) M1 O1
    replace R0 := H.ext
    refine LW.nil (hK9 _ _ ?_)
    refine CW.region ?_
    refine LW.pure rfl rfl (RV.move rfl) ?_
    refine LW.pure rfl rfl (RV.move rfl) ?_
    have hb2 : 0 ≤ ((↑i) : Int) ∧ ((↑i) : Int) < ((Int.toNat c.layers : Nat) : Int) := by omega
    have kx1 : (((tI c.layers.toNat i).set i ((List.replicate (Int.toNat c.layers) (⟨false, 0⟩ : Tight)))))[i]? = some ((List.replicate (Int.toNat c.layers) (⟨false, 0⟩ : Tight))) := List.getElem?_set_self (by omega)
    obtain ⟨B2, e2, hh2⟩ := (H.tab 0 rfl).hd kx1
    refine LW.pure rfl rfl (RV.indexAddr s69 rfl rfl hb2 ⟨_, rfl⟩) ?_
    refine LW.pure rfl rfl (RV.load1 k76 rfl ((H.tab 0 rfl).cell kx1 hh2) rfl) ?_
    refine LW.pure rfl rfl (RV.move rfl) ?_
    have hb3 : 0 ≤ ((↑i) : Int) ∧ ((↑i) : Int) < ((((List.replicate (Int.toNat c.layers) (⟨false, 0⟩ : Tight))).length : Nat) : Int) := by omega
    have kx2 : ((List.replicate (Int.toNat c.layers) (⟨false, 0⟩ : Tight)))[i]? = some ((⟨false, 0⟩ : Tight)) := by simp [List.getElem?_replicate]; omega
    refine LW.pure rfl rfl (RV.indexAddr s76 rfl rfl hb3 (((H.tab 0 rfl).rowO kx1 hh2).sl.addr_ kx2)) ?_
    refine LW.pure rfl rfl (RV.fieldAddr f75_0 rfl) ?_
    refine LW.go rfl rfl (OW.storeO (enc := encT) (vs := [.bool true]) 0 ({ (⟨false, 0⟩ : Tight) with known := true }) k4 rfl rfl ((H.tab 0 rfl).rowO kx1 hh2) (fun _ => rfl) rfl kx2 rfl rfl (by decide) rfl rfl fun w5 M2 O2 => ?_)
    replace H : Hp w w5 [.tab (some ⟨b2, 0, none⟩) (Int.toNat c.layers) 76 ((hsL1_3.set i (some ⟨b3, 0, none⟩, Int.toNat c.layers))) 75 2 (encM encT (((((tI c.layers.toNat i).set i ((List.replicate (Int.toNat c.layers) (⟨false, 0⟩ : Tight))))).set i (((List.replicate (Int.toNat c.layers) (⟨false, 0⟩ : Tight))).set i ({ (⟨false, 0⟩ : Tight) with known := true }))))), .blk b1 24 [.int .i64 c.layers, .slice A_c_bounds c.bounds.length c_c_bounds]] := H.tabRow 0 rfl hh2 kx1 (by simp) M2 O2
    replace R0 := H.ext
    have hr1 : (((((tI c.layers.toNat i).set i ((List.replicate (Int.toNat c.layers) (⟨false, 0⟩ : Tight))))).set i (((List.replicate (Int.toNat c.layers) (⟨false, 0⟩ : Tight))).set i ({ (⟨false, 0⟩ : Tight) with known := true }))))[i]? = some (((List.replicate (Int.toNat c.layers) (⟨false, 0⟩ : Tight))).set i ({ (⟨false, 0⟩ : Tight) with known := true })) := List.getElem?_set_self (lt_of_at kx1)
    refine LW.nil (hK7 _ _ ?_)
    refine CW.region ?_
    refine LW.pure rfl rfl (RV.add rfl rfl (by omega)) ?_
    refine LW.pure rfl rfl (RV.move rfl) ?_
    refine LW.nil ?_
    refine ⟨_, ?_, _, ?_, i + 1, ((hsL1_3.set i (some ⟨b3, 0, none⟩, Int.toNat c.layers))), rfl, rfl, ?_, ?_⟩
    · omega
    · exact ⟨rfl, rfl, look_slice rfl (by first | rfl | omega | (simp; done)), rfl, look_int rfl (by first | rfl | omega | (simp; omega)), trivial⟩
    · simp only [List.set_set] at H; exact H
    · omega
  ·
    have h1 := of_decide_eq_false h1
    refine CW.exit (hK3 _ _ ?_)
    refine CW.seq fun K10 hK10 => ?_
    refine CW.seq fun K11 hK11 => ?_
    refine CW.region ?_
    refine LW.pure rfl rfl (RV.fieldAddr f24_1 rfl) ?_
    refine LW.pure rfl rfl (RV.load1 k22 rfl ((H.blk 1 rfl).cells.off 1) rfl) ?_
    refine LW.pure rfl rfl (RV.len s22 rfl) ?_
    refine LW.pure rfl rfl (RV.move rfl) ?_
    refine LW.nil (hK11 _ _ ?_)
    refine CW.block ?_
    refine CW.loop (fun meas ρ wl2 => ∃ (j : Nat) (hsL2_3 : List (Option Addr × Nat)), meas = c.bounds.length - j ∧ ρ = [(1, .pointer (some (⟨b1, 0, none⟩))), (2, .slice none 0 0), (3, .slice (some ⟨b2, 0, none⟩) (Int.toNat c.layers) (Int.toNat c.layers)), (33, .slice A_c_bounds c.bounds.length c_c_bounds), (34, .int .i64 (((c.bounds.length : Nat) : Int))), (35, .int .i64 (↑j))] ∧ Hp w wl2 [.tab (some ⟨b2, 0, none⟩) (Int.toNat c.layers) 76 hsL2_3 75 2 (encM encT (tB c.layers.toNat c.bounds j)), .blk b1 24 [.int .i64 c.layers, .slice A_c_bounds c.bounds.length c_c_bounds]] ∧ (j ≤ c.bounds.length)) (c.bounds.length - 0) ⟨_, ?_, 0, hsL1_3, rfl, rfl, ?_, ?_⟩ ?_
    · exact ⟨rfl, rfl, look_slice rfl (by first | rfl | omega | (simp; done)), rfl, rfl, look_int rfl (by first | rfl | omega | (simp; omega)), trivial⟩
    · have e : i = c.layers.toNat := (by omega)
      subst e; exact H
    · omega
    rintro _ _ wl2 ⟨j, hsL2_3, rfl, rfl, H, hI2⟩
    have R0 := H.ext
    have hT := tB_inv hv hp j
    have hTl := hT.sq.len
    refine CW.seq fun K12 hK12 => ?_
    refine CW.region ?_
    refine LW.pure rfl rfl (RV.lss rfl rfl) ?_
    refine LW.nil (hK12 _ _ ?_)
    refine CW.seq fun K13 hK13 => ?_
    refine CW.cond rfl (fun h2 => ?_) (fun h2 => ?_)
    ·
      have h2 := of_decide_eq_true h2
      refine CW.skip (hK13 _ _ ?_)
      refine CW.seq fun K14 hK14 => ?_
      refine CW.block ?_
      refine CW.seq fun K15 hK15 => ?_
      refine CW.region ?_
      have hb4 : 0 ≤ ((↑j) : Int) ∧ ((↑j) : Int) < ((c.bounds.length : Nat) : Int) := by omega
      obtain ⟨x2, hx2⟩ := ex_at (l := c.bounds) (j := j) (by first | omega | (simp; omega))
      have hr := bound_ok hv hx2
      refine LW.pure rfl rfl (RV.indexAddr s22 rfl rfl hb4 (h_c_bounds.addr hb4)) ?_
      refine LW.pure rfl rfl (RV.loadA [.int .i64 x2.a, .int .i64 x2.b, .int .i64 x2.most] k26 rfl ((h_c_bounds.at_ hx2).ext R0) rfl rfl) ?_
      refine LW.go rfl rfl (OW.alloc z26 fun b4 w6 N4 => ?_)
      replace H : Hp w w6 [.blk b4 26 [.int .i64 0, .int .i64 0, .int .i64 0], .tab (some ⟨b2, 0, none⟩) (Int.toNat c.layers) 76 hsL2_3 75 2 (encM encT (tB c.layers.toNat c.bounds j)), .blk b1 24 [.int .i64 c.layers, .slice A_c_bounds c.bounds.length c_c_bounds]] := H.new N4 N4.blk
      replace R0 := H.ext
      refine LW.go rfl rfl (OW.store k26 rfl rfl (H.blk 0 rfl) (off := 0) (vs := [.int .i64 x2.a, .int .i64 x2.b, .int .i64 x2.most]) rfl rfl rfl rfl rfl fun w7 S1 => ?_)
      replace H : Hp w w7 [.blk b4 26 [.int .i64 x2.a, .int .i64 x2.b, .int .i64 x2.most], .tab (some ⟨b2, 0, none⟩) (Int.toNat c.layers) 76 hsL2_3 75 2 (encM encT (tB c.layers.toNat c.bounds j)), .blk b1 24 [.int .i64 c.layers, .slice A_c_bounds c.bounds.length c_c_bounds]] := H.stored 0 rfl S1
      replace R0 := H.ext
      refine LW.nil (hK15 _ _ ?_)
      refine CW.draw [21] (fun _ => True) (.cons 0 1 (.cons 1 1 (.cons 2 1 (.cons 3 1 (.cons 4 1 (.cons 5 1 (.cons 6 1 (.cons 7 1 (.cons 8 1 (.cons 9 1 (.cons 10 1 (.cons 11 1 (.cons 12 1 (.cons 13 1 (.cons 14 1 (.cons 15 1 (.cons 16 1 (.cons 17 1 (.cons 18 1 (.cons 19 0 (.cons 20 1 (.cons 21 0 .nil)))))))))))))))))))))) mixed (by kernel_rfl) fun w8 E1 => ?_
      replace H := H.grow E1
      replace R0 := H.ext
      refine DW.fix rfl rfl rfl (fun _ EQ => RV.move rfl) ?_
      refine DW.fix rfl rfl rfl (fun _ EQ => RV.fieldAddr f26_0 rfl) ?_
      refine DW.fix rfl rfl rfl (fun _ EQ => RV.load1 k3 rfl (((H.grow EQ).blk 0 rfl).cells.off 0) rfl) ?_
      have hb5 : 0 ≤ ((x2.a) : Int) ∧ ((x2.a) : Int) < ((Int.toNat c.layers : Nat) : Int) := by omega
      obtain ⟨x3, hx3⟩ := ex_at (l := tB c.layers.toNat c.bounds j) (j := Int.toNat x2.a) (by first | omega | (simp; omega))
      try have hlx3 := hT.sq.rowAt hx3
      obtain ⟨B3, e3, hh3⟩ := (H.tab 1 rfl).hd hx3
      refine DW.fix rfl rfl rfl (fun _ EQ => RV.indexAddr s69 rfl rfl hb5 ⟨_, rfl⟩) ?_
      refine DW.fix rfl rfl rfl (fun _ EQ => RV.load1 k76 rfl (((H.grow EQ).tab 1 rfl).cell hx3 hh3) rfl) ?_
      refine DW.fix rfl rfl rfl (fun _ EQ => RV.fieldAddr f26_1 rfl) ?_
      refine DW.fix rfl rfl rfl (fun _ EQ => RV.load1 k3 rfl (((H.grow EQ).blk 0 rfl).cells.off 1) rfl) ?_
      refine DW.fix rfl rfl rfl (fun _ EQ => RV.move rfl) ?_
      refine DW.fix rfl rfl rfl (fun _ EQ => RV.fieldAddr f26_0 rfl) ?_
      refine DW.fix rfl rfl rfl (fun _ EQ => RV.load1 k3 rfl (((H.grow EQ).blk 0 rfl).cells.off 0) rfl) ?_
      have hb6 : 0 ≤ ((x2.a) : Int) ∧ ((x2.a) : Int) < ((Int.toNat c.layers : Nat) : Int) := by omega
      obtain ⟨x4, hx4⟩ := ex_at (l := tB c.layers.toNat c.bounds j) (j := Int.toNat x2.a) (by first | omega | (simp; omega))
      try have hlx4 := hT.sq.rowAt hx4
      obtain ⟨B4, e4, hh4⟩ := (H.tab 1 rfl).hd hx4
      refine DW.fix rfl rfl rfl (fun _ EQ => RV.indexAddr s69 rfl rfl hb6 ⟨_, rfl⟩) ?_
      refine DW.fix rfl rfl rfl (fun _ EQ => RV.load1 k76 rfl (((H.grow EQ).tab 1 rfl).cell hx4 hh4) rfl) ?_
      refine DW.fix rfl rfl rfl (fun _ EQ => RV.fieldAddr f26_1 rfl) ?_
      refine DW.fix rfl rfl rfl (fun _ EQ => RV.load1 k3 rfl (((H.grow EQ).blk 0 rfl).cells.off 1) rfl) ?_
      have hb7 : 0 ≤ ((x2.b) : Int) ∧ ((x2.b) : Int) < ((x4.length : Nat) : Int) := by omega
      obtain ⟨x5, hx5⟩ := ex_at (l := x4) (j := Int.toNat x2.b) (by first | omega | (simp; omega))
      try have hlx5 := hT.sq.rowAt hx5
      refine DW.fix rfl rfl rfl (fun _ EQ => RV.indexAddr s76 rfl rfl hb7 (((H.tab 1 rfl).rowO hx4 hh4).sl.addr_ hx5)) ?_
      refine DW.fix rfl rfl rfl (fun _ EQ => RV.loadA [.bool x5.known, .int .i64 x5.most] k75 rfl ((((H.grow EQ).tab 1 rfl).rowO hx4 hh4).sl.at_ hx5) rfl rfl) ?_
      refine DW.fix rfl rfl rfl (fun _ EQ => RV.fieldAddr f26_2 rfl) ?_
      refine DW.fix rfl rfl rfl (fun _ EQ => RV.load1 k3 rfl (((H.grow EQ).blk 0 rfl).cells.off 2) rfl) ?_
      refine DW.fix rfl rfl rfl (fun _ EQ => RV.build (vs := [.bool true, .int .i64 x2.most]) (cs := [.bool true, .int .i64 x2.most]) rfl (fun _ => by kernel_rfl)) ?_
      refine DW.sole rfl rfl rfl (OW.call c91 rfl (core_tighter (t := x5) (o := (⟨true, x2.most⟩ : Tight))) ?_)
      rintro _ w9 ⟨rfl, E2⟩
      refine ⟨_, rfl, fun _ => E2, ModX.ext E2, ?_⟩
      replace H := H.grow E2
      replace R0 := H.ext
      have hst := tB_succ (n := c.layers.toNat) hx2
      rw [put_of hx3, mg_of hx4 hx5] at hst
      have hb8 : 0 ≤ ((x2.b) : Int) ∧ ((x2.b) : Int) < ((x3.length : Nat) : Int) := by omega
      obtain ⟨x6, hx6⟩ := ex_at (l := x3) (j := Int.toNat x2.b) (by first | omega | (simp; omega))
      try have hlx6 := hT.sq.rowAt hx6
      refine DW.fix rfl rfl rfl (fun _ EQ => RV.indexAddr s76 rfl rfl hb8 (((H.tab 1 rfl).rowO hx3 hh3).sl.addr_ hx6)) ?_
      refine DW.sole rfl rfl rfl (OW.storeO (enc := encT) (vs := [.bool ((tighter x5 ((⟨true, x2.most⟩ : Tight))).known), .int .i64 ((tighter x5 ((⟨true, x2.most⟩ : Tight))).most)]) 0 (tighter x5 ((⟨true, x2.most⟩ : Tight))) k75 rfl rfl ((H.tab 1 rfl).rowO hx3 hh3) (fun _ => rfl) rfl hx6 rfl rfl (by decide) rfl rfl fun w10 M3 O3 => ?_)
      refine ⟨fun h => absurd h (by decide), M3.modx (fun _ _ => trivial), ?_⟩
      replace H : Hp w w10 [.blk b4 26 [.int .i64 x2.a, .int .i64 x2.b, .int .i64 x2.most], .tab (some ⟨b2, 0, none⟩) (Int.toNat c.layers) 76 hsL2_3 75 2 (encM encT (((tB c.layers.toNat c.bounds j).set (Int.toNat x2.a) (x3.set (Int.toNat x2.b) (tighter x5 ((⟨true, x2.most⟩ : Tight))))))), .blk b1 24 [.int .i64 c.layers, .slice A_c_bounds c.bounds.length c_c_bounds]] := H.tabRow 1 rfl hh3 hx3 (by simp) M3 O3
      replace R0 := H.ext
      have hr2 : (((tB c.layers.toNat c.bounds j).set (Int.toNat x2.a) (x3.set (Int.toNat x2.b) (tighter x5 ((⟨true, x2.most⟩ : Tight))))))[Int.toNat x2.a]? = some (x3.set (Int.toNat x2.b) (tighter x5 ((⟨true, x2.most⟩ : Tight)))) := List.getElem?_set_self (lt_of_at hx3)
      refine DW.nil (hK14 _ _ ?_)
      refine CW.region ?_
      refine LW.pure rfl rfl (RV.add rfl rfl (by omega)) ?_
      refine LW.pure rfl rfl (RV.move rfl) ?_
      refine LW.nil ?_
      replace H : Hp w w10 [.tab (some ⟨b2, 0, none⟩) (Int.toNat c.layers) 76 hsL2_3 75 2 (encM encT (((tB c.layers.toNat c.bounds j).set (Int.toNat x2.a) (x3.set (Int.toNat x2.b) (tighter x5 ((⟨true, x2.most⟩ : Tight))))))), .blk b1 24 [.int .i64 c.layers, .slice A_c_bounds c.bounds.length c_c_bounds]] := H.pick [1, 2] (by decide) rfl
      replace R0 := H.ext
      refine ⟨_, ?_, _, ?_, j + 1, hsL2_3, rfl, rfl, ?_, ?_⟩
      · omega
      · exact ⟨rfl, rfl, look_slice rfl (by first | rfl | omega | (simp; done)), rfl, rfl, look_int rfl (by first | rfl | omega | (simp; omega)), trivial⟩
      · rw [hst]; exact H
      · omega
    ·
      have h2 := of_decide_eq_false h2
      refine CW.exit (hK10 _ _ ?_)
      refine CW.seq fun K16 hK16 => ?_
      refine CW.seq fun K17 hK17 => ?_
      refine CW.region ?_
      refine LW.pure rfl rfl (RV.fieldAddr f24_0 rfl) ?_
      refine LW.pure rfl rfl (RV.load1 k3 rfl ((H.blk 1 rfl).cells.off 0) rfl) ?_
      refine LW.pure rfl rfl (RV.move rfl) ?_
      refine LW.nil (hK17 _ _ ?_)
      refine CW.block ?_
      refine CW.loop (fun meas ρ wl3 => ∃ (k : Nat) (hsL3_3 : List (Option Addr × Nat)), meas = c.layers.toNat - k ∧ ρ = [(1, .pointer (some (⟨b1, 0, none⟩))), (2, .slice none 0 0), (3, .slice (some ⟨b2, 0, none⟩) (Int.toNat c.layers) (Int.toNat c.layers)), (62, .int .i64 c.layers), (63, .int .i64 (↑k))] ∧ Hp w wl3 [.tab (some ⟨b2, 0, none⟩) (Int.toNat c.layers) 76 hsL3_3 75 2 (encM encT (tK c k)), .blk b1 24 [.int .i64 c.layers, .slice A_c_bounds c.bounds.length c_c_bounds]] ∧ (k ≤ c.layers.toNat)) (c.layers.toNat - 0) ⟨_, ?_, 0, hsL2_3, rfl, rfl, ?_, ?_⟩ ?_
      · exact ⟨rfl, rfl, look_slice rfl (by first | rfl | omega | (simp; done)), rfl, look_int rfl (by first | rfl | omega | (simp; omega)), trivial⟩
      · have e : j = c.bounds.length := (by omega)
        subst e; exact H
      · omega
      rintro _ _ wl3 ⟨k, hsL3_3, rfl, rfl, H, hI3⟩
      have R0 := H.ext
      refine CW.seq fun K18 hK18 => ?_
      refine CW.region ?_
      refine LW.pure rfl rfl (RV.lss rfl rfl) ?_
      refine LW.nil (hK18 _ _ ?_)
      refine CW.seq fun K19 hK19 => ?_
      refine CW.cond rfl (fun h3 => ?_) (fun h3 => ?_)
      ·
        have h3 := of_decide_eq_true h3
        refine CW.skip (hK19 _ _ ?_)
        refine CW.seq fun K20 hK20 => ?_
        refine CW.block ?_
        refine CW.seq fun K21 hK21 => ?_
        refine CW.region ?_
        refine LW.pure rfl rfl (RV.move rfl) ?_
        refine LW.pure rfl rfl (RV.assign rfl) ?_
        refine LW.nil (hK21 _ _ ?_)
        refine CW.seq fun K22 hK22 => ?_
        refine CW.region ?_
        refine LW.pure rfl rfl (RV.fieldAddr f24_0 rfl) ?_
        refine LW.pure rfl rfl (RV.load1 k3 rfl ((H.blk 1 rfl).cells.off 0) rfl) ?_
        refine LW.pure rfl rfl (RV.move rfl) ?_
        refine LW.nil (hK22 _ _ ?_)
        refine CW.block ?_
        refine CW.loop (fun meas ρ wl4 => ∃ (i2 : Nat) (hsL4_3 : List (Option Addr × Nat)), meas = c.layers.toNat - i2 ∧ ρ = [(1, .pointer (some (⟨b1, 0, none⟩))), (2, .slice none 0 0), (3, .slice (some ⟨b2, 0, none⟩) (Int.toNat c.layers) (Int.toNat c.layers)), (7, .int .i64 (↑k)), (62, .int .i64 c.layers), (63, .int .i64 (↑k)), (67, .int .i64 c.layers), (68, .int .i64 (↑i2))] ∧ Hp w wl4 [.tab (some ⟨b2, 0, none⟩) (Int.toNat c.layers) 76 hsL4_3 75 2 (encM encT (fwI c.layers.toNat (tK c k) k i2)), .blk b1 24 [.int .i64 c.layers, .slice A_c_bounds c.bounds.length c_c_bounds]] ∧ (i2 ≤ c.layers.toNat)) (c.layers.toNat - 0) ⟨_, ?_, 0, hsL3_3, rfl, rfl, ?_, ?_⟩ ?_
        · exact ⟨rfl, rfl, look_slice rfl (by first | rfl | omega | (simp; done)), rfl, rfl, rfl, rfl, look_int rfl (by first | rfl | omega | (simp; omega)), trivial⟩
        · exact H
        · omega
        rintro _ _ wl4 ⟨i2, hsL4_3, rfl, rfl, H, hI4⟩
        have R0 := H.ext
        refine CW.seq fun K23 hK23 => ?_
        refine CW.region ?_
        refine LW.pure rfl rfl (RV.lss rfl rfl) ?_
        refine LW.nil (hK23 _ _ ?_)
        refine CW.seq fun K24 hK24 => ?_
        refine CW.cond rfl (fun h4 => ?_) (fun h4 => ?_)
        ·
          have h4 := of_decide_eq_true h4
          refine CW.skip (hK24 _ _ ?_)
          refine CW.seq fun K25 hK25 => ?_
          refine CW.block ?_
          refine CW.seq fun K26 hK26 => ?_
          refine CW.region ?_
          refine LW.pure rfl rfl (RV.move rfl) ?_
          refine LW.pure rfl rfl (RV.assign rfl) ?_
          refine LW.nil (hK26 _ _ ?_)
          refine CW.seq fun K27 hK27 => ?_
          refine CW.region ?_
          refine LW.pure rfl rfl (RV.fieldAddr f24_0 rfl) ?_
          refine LW.pure rfl rfl (RV.load1 k3 rfl ((H.blk 1 rfl).cells.off 0) rfl) ?_
          refine LW.pure rfl rfl (RV.move rfl) ?_
          refine LW.nil (hK27 _ _ ?_)
          refine CW.block ?_
          refine CW.loop (fun meas ρ wl5 => ∃ (j2 : Nat) (hsL5_3 : List (Option Addr × Nat)), meas = c.layers.toNat - j2 ∧ ρ = [(1, .pointer (some (⟨b1, 0, none⟩))), (2, .slice none 0 0), (3, .slice (some ⟨b2, 0, none⟩) (Int.toNat c.layers) (Int.toNat c.layers)), (7, .int .i64 (↑k)), (8, .int .i64 (↑i2)), (62, .int .i64 c.layers), (63, .int .i64 (↑k)), (67, .int .i64 c.layers), (68, .int .i64 (↑i2)), (72, .int .i64 c.layers), (73, .int .i64 (↑j2))] ∧ Hp w wl5 [.tab (some ⟨b2, 0, none⟩) (Int.toNat c.layers) 76 hsL5_3 75 2 (encM encT (fwJ (fwI c.layers.toNat (tK c k) k i2) k i2 j2)), .blk b1 24 [.int .i64 c.layers, .slice A_c_bounds c.bounds.length c_c_bounds]] ∧ (j2 ≤ c.layers.toNat)) (c.layers.toNat - 0) ⟨_, ?_, 0, hsL4_3, rfl, rfl, ?_, ?_⟩ ?_
          · exact ⟨rfl, rfl, look_slice rfl (by first | rfl | omega | (simp; done)), rfl, rfl, rfl, rfl, rfl, rfl, rfl, look_int rfl (by first | rfl | omega | (simp; omega)), trivial⟩
          · exact H
          · omega
          rintro _ _ wl5 ⟨j2, hsL5_3, rfl, rfl, H, hI5⟩
          have R0 := H.ext
          have hT := tR_inv hv hp (k := k) (i := i2) (j := j2) (by omega) (by omega) (by omega)
          have hTl := hT.sq.len
          refine CW.seq fun K28 hK28 => ?_
          refine CW.region ?_
          refine LW.pure rfl rfl (RV.lss rfl rfl) ?_
          refine LW.nil (hK28 _ _ ?_)
          refine CW.seq fun K29 hK29 => ?_
          refine CW.cond rfl (fun h5 => ?_) (fun h5 => ?_)
          ·
            have h5 := of_decide_eq_true h5
            refine CW.skip (hK29 _ _ ?_)
            refine CW.seq fun K30 hK30 => ?_
            refine CW.block ?_
            refine CW.seq fun K31 hK31 => ?_
            refine CW.region ?_
            refine LW.pure rfl rfl (RV.move rfl) ?_
            refine LW.pure rfl rfl (RV.assign rfl) ?_
            refine LW.nil (hK31 _ _ ?_)
            refine CW.draw [29] (fun _ => True) (.cons 0 1 (.cons 1 1 (.cons 2 1 (.cons 3 1 (.cons 4 1 (.cons 5 1 (.cons 6 1 (.cons 7 1 (.cons 8 1 (.cons 9 1 (.cons 10 1 (.cons 11 1 (.cons 12 1 (.cons 13 1 (.cons 14 1 (.cons 15 1 (.cons 16 1 (.cons 17 1 (.cons 18 1 (.cons 19 1 (.cons 20 1 (.cons 21 1 (.cons 22 1 (.cons 23 1 (.cons 24 1 (.cons 25 1 (.cons 26 0 (.cons 27 0 (.cons 28 1 (.cons 29 0 .nil)))))))))))))))))))))))))))))) mixed (by kernel_rfl) fun w11 E3 => ?_
            replace H := H.grow E3
            replace R0 := H.ext
            refine DW.fix rfl rfl rfl (fun _ EQ => RV.move rfl) ?_
            refine DW.fix rfl rfl rfl (fun _ EQ => RV.move rfl) ?_
            have hb9 : 0 ≤ ((↑i2) : Int) ∧ ((↑i2) : Int) < ((Int.toNat c.layers : Nat) : Int) := by omega
            obtain ⟨x7, hx7⟩ := ex_at (l := fwJ (fwI c.layers.toNat (tK c k) k i2) k i2 j2) (j := i2) (by first | omega | (simp; omega))
            try have hlx7 := hT.sq.rowAt hx7
            obtain ⟨B5, e5, hh5⟩ := (H.tab 0 rfl).hd hx7
            refine DW.fix rfl rfl rfl (fun _ EQ => RV.indexAddr s69 rfl rfl hb9 ⟨_, rfl⟩) ?_
            refine DW.fix rfl rfl rfl (fun _ EQ => RV.load1 k76 rfl (((H.grow EQ).tab 0 rfl).cell hx7 hh5) rfl) ?_
            refine DW.fix rfl rfl rfl (fun _ EQ => RV.move rfl) ?_
            refine DW.fix rfl rfl rfl (fun _ EQ => RV.move rfl) ?_
            refine DW.fix rfl rfl rfl (fun _ EQ => RV.move rfl) ?_
            have hb10 : 0 ≤ ((↑i2) : Int) ∧ ((↑i2) : Int) < ((Int.toNat c.layers : Nat) : Int) := by omega
            obtain ⟨x8, hx8⟩ := ex_at (l := fwJ (fwI c.layers.toNat (tK c k) k i2) k i2 j2) (j := i2) (by first | omega | (simp; omega))
            try have hlx8 := hT.sq.rowAt hx8
            obtain ⟨B6, e6, hh6⟩ := (H.tab 0 rfl).hd hx8
            refine DW.fix rfl rfl rfl (fun _ EQ => RV.indexAddr s69 rfl rfl hb10 ⟨_, rfl⟩) ?_
            refine DW.fix rfl rfl rfl (fun _ EQ => RV.load1 k76 rfl (((H.grow EQ).tab 0 rfl).cell hx8 hh6) rfl) ?_
            refine DW.fix rfl rfl rfl (fun _ EQ => RV.move rfl) ?_
            have hb11 : 0 ≤ ((↑j2) : Int) ∧ ((↑j2) : Int) < ((x8.length : Nat) : Int) := by omega
            obtain ⟨x9, hx9⟩ := ex_at (l := x8) (j := j2) (by first | omega | (simp; omega))
            try have hlx9 := hT.sq.rowAt hx9
            refine DW.fix rfl rfl rfl (fun _ EQ => RV.indexAddr s76 rfl rfl hb11 (((H.tab 0 rfl).rowO hx8 hh6).sl.addr_ hx9)) ?_
            refine DW.fix rfl rfl rfl (fun _ EQ => RV.loadA [.bool x9.known, .int .i64 x9.most] k75 rfl ((((H.grow EQ).tab 0 rfl).rowO hx8 hh6).sl.at_ hx9) rfl rfl) ?_
            refine DW.fix rfl rfl rfl (fun _ EQ => RV.move rfl) ?_
            refine DW.fix rfl rfl rfl (fun _ EQ => RV.move rfl) ?_
            have hb12 : 0 ≤ ((↑i2) : Int) ∧ ((↑i2) : Int) < ((Int.toNat c.layers : Nat) : Int) := by omega
            obtain ⟨x10, hx10⟩ := ex_at (l := fwJ (fwI c.layers.toNat (tK c k) k i2) k i2 j2) (j := i2) (by first | omega | (simp; omega))
            try have hlx10 := hT.sq.rowAt hx10
            obtain ⟨B7, e7, hh7⟩ := (H.tab 0 rfl).hd hx10
            refine DW.fix rfl rfl rfl (fun _ EQ => RV.indexAddr s69 rfl rfl hb12 ⟨_, rfl⟩) ?_
            refine DW.fix rfl rfl rfl (fun _ EQ => RV.load1 k76 rfl (((H.grow EQ).tab 0 rfl).cell hx10 hh7) rfl) ?_
            refine DW.fix rfl rfl rfl (fun _ EQ => RV.move rfl) ?_
            have hb13 : 0 ≤ ((↑k) : Int) ∧ ((↑k) : Int) < ((x10.length : Nat) : Int) := by omega
            obtain ⟨x11, hx11⟩ := ex_at (l := x10) (j := k) (by first | omega | (simp; omega))
            try have hlx11 := hT.sq.rowAt hx11
            refine DW.fix rfl rfl rfl (fun _ EQ => RV.indexAddr s76 rfl rfl hb13 (((H.tab 0 rfl).rowO hx10 hh7).sl.addr_ hx11)) ?_
            refine DW.fix rfl rfl rfl (fun _ EQ => RV.loadA [.bool x11.known, .int .i64 x11.most] k75 rfl ((((H.grow EQ).tab 0 rfl).rowO hx10 hh7).sl.at_ hx11) rfl rfl) ?_
            refine DW.fix rfl rfl rfl (fun _ EQ => RV.move rfl) ?_
            refine DW.fix rfl rfl rfl (fun _ EQ => RV.move rfl) ?_
            have hb14 : 0 ≤ ((↑k) : Int) ∧ ((↑k) : Int) < ((Int.toNat c.layers : Nat) : Int) := by omega
            obtain ⟨x12, hx12⟩ := ex_at (l := fwJ (fwI c.layers.toNat (tK c k) k i2) k i2 j2) (j := k) (by first | omega | (simp; omega))
            try have hlx12 := hT.sq.rowAt hx12
            obtain ⟨B8, e8, hh8⟩ := (H.tab 0 rfl).hd hx12
            refine DW.fix rfl rfl rfl (fun _ EQ => RV.indexAddr s69 rfl rfl hb14 ⟨_, rfl⟩) ?_
            refine DW.fix rfl rfl rfl (fun _ EQ => RV.load1 k76 rfl (((H.grow EQ).tab 0 rfl).cell hx12 hh8) rfl) ?_
            refine DW.fix rfl rfl rfl (fun _ EQ => RV.move rfl) ?_
            have hb15 : 0 ≤ ((↑j2) : Int) ∧ ((↑j2) : Int) < ((x12.length : Nat) : Int) := by omega
            obtain ⟨x13, hx13⟩ := ex_at (l := x12) (j := j2) (by first | omega | (simp; omega))
            have hbA := hT.bnd i2 k (by omega) (by omega)
            rw [mg_of hx10 hx11] at hbA
            have hbB := hT.bnd k j2 (by omega) (by omega)
            rw [mg_of hx12 hx13] at hbB
            refine DW.fix rfl rfl rfl (fun _ EQ => RV.indexAddr s76 rfl rfl hb15 (((H.tab 0 rfl).rowO hx12 hh8).sl.addr_ hx13)) ?_
            refine DW.fix rfl rfl rfl (fun _ EQ => RV.loadA [.bool x13.known, .int .i64 x13.most] k75 rfl ((((H.grow EQ).tab 0 rfl).rowO hx12 hh8).sl.at_ hx13) rfl rfl) ?_
            refine DW.sole rfl rfl rfl (OW.call c92 rfl (core_over (t := x11) (o := x13) (by omega)) ?_)
            rintro _ w12 ⟨rfl, E4⟩
            refine ⟨_, rfl, fun _ => E4, ModX.ext E4, ?_⟩
            replace H := H.grow E4
            replace R0 := H.ext
            refine DW.sole rfl rfl rfl (OW.call c91 rfl (core_tighter (t := x9) (o := tover x11 x13)) ?_)
            rintro _ w13 ⟨rfl, E5⟩
            refine ⟨_, rfl, fun _ => E5, ModX.ext E5, ?_⟩
            replace H := H.grow E5
            replace R0 := H.ext
            have hst : fwJ (fwI c.layers.toNat (tK c k) k i2) k i2 (j2 + 1) = _ := fwAt_of hx7 hx8 hx9 hx10 hx11 hx12 hx13
            have hb16 : 0 ≤ ((↑j2) : Int) ∧ ((↑j2) : Int) < ((x7.length : Nat) : Int) := by omega
            obtain ⟨x14, hx14⟩ := ex_at (l := x7) (j := j2) (by first | omega | (simp; omega))
            try have hlx14 := hT.sq.rowAt hx14
            refine DW.fix rfl rfl rfl (fun _ EQ => RV.indexAddr s76 rfl rfl hb16 (((H.tab 0 rfl).rowO hx7 hh5).sl.addr_ hx14)) ?_
            refine DW.sole rfl rfl rfl (OW.storeO (enc := encT) (vs := [.bool ((tighter x9 (tover x11 x13)).known), .int .i64 ((tighter x9 (tover x11 x13)).most)]) 0 (tighter x9 (tover x11 x13)) k75 rfl rfl ((H.tab 0 rfl).rowO hx7 hh5) (fun _ => rfl) rfl hx14 rfl rfl (by decide) rfl rfl fun w14 M4 O4 => ?_)
            refine ⟨fun h => absurd h (by decide), M4.modx (fun _ _ => trivial), ?_⟩
            replace H : Hp w w14 [.tab (some ⟨b2, 0, none⟩) (Int.toNat c.layers) 76 hsL5_3 75 2 (encM encT (((fwJ (fwI c.layers.toNat (tK c k) k i2) k i2 j2).set i2 (x7.set j2 (tighter x9 (tover x11 x13)))))), .blk b1 24 [.int .i64 c.layers, .slice A_c_bounds c.bounds.length c_c_bounds]] := H.tabRow 0 rfl hh5 hx7 (by simp) M4 O4
            replace R0 := H.ext
            have hr3 : (((fwJ (fwI c.layers.toNat (tK c k) k i2) k i2 j2).set i2 (x7.set j2 (tighter x9 (tover x11 x13)))))[i2]? = some (x7.set j2 (tighter x9 (tover x11 x13))) := List.getElem?_set_self (lt_of_at hx7)
            refine DW.nil (hK30 _ _ ?_)
            refine CW.region ?_
            refine LW.pure rfl rfl (RV.add rfl rfl (by omega)) ?_
            refine LW.pure rfl rfl (RV.move rfl) ?_
            refine LW.nil ?_
            refine ⟨_, ?_, _, ?_, j2 + 1, hsL5_3, rfl, rfl, ?_, ?_⟩
            · omega
            · exact ⟨rfl, rfl, look_slice rfl (by first | rfl | omega | (simp; done)), rfl, rfl, rfl, rfl, rfl, rfl, rfl, look_int rfl (by first | rfl | omega | (simp; omega)), trivial⟩
            · rw [hst]; exact H
            · omega
          ·
            have h5 := of_decide_eq_false h5
            refine CW.exit (hK25 _ _ ?_)
            refine CW.region ?_
            refine LW.pure rfl rfl (RV.add rfl rfl (by omega)) ?_
            refine LW.pure rfl rfl (RV.move rfl) ?_
            refine LW.nil ?_
            refine ⟨_, ?_, _, ?_, i2 + 1, hsL5_3, rfl, rfl, ?_, ?_⟩
            · omega
            · exact ⟨rfl, rfl, look_slice rfl (by first | rfl | omega | (simp; done)), rfl, rfl, rfl, rfl, look_int rfl (by first | rfl | omega | (simp; omega)), trivial⟩
            · have e : j2 = c.layers.toNat := (by omega)
              subst e; exact H
            · omega
        ·
          have h4 := of_decide_eq_false h4
          refine CW.exit (hK20 _ _ ?_)
          refine CW.region ?_
          refine LW.pure rfl rfl (RV.add rfl rfl (by omega)) ?_
          refine LW.pure rfl rfl (RV.move rfl) ?_
          refine LW.nil ?_
          refine ⟨_, ?_, _, ?_, k + 1, hsL4_3, rfl, rfl, ?_, ?_⟩
          · omega
          · exact ⟨rfl, rfl, look_slice rfl (by first | rfl | omega | (simp; done)), rfl, look_int rfl (by first | rfl | omega | (simp; omega)), trivial⟩
          · have e : i2 = c.layers.toNat := (by omega)
            subst e; exact H
          · omega
      ·
        have h3 := of_decide_eq_false h3
        refine CW.exit (hK16 _ _ ?_)
        refine CW.seq fun K32 hK32 => ?_
        refine CW.region ?_
        refine LW.pure rfl rfl (RV.move rfl) ?_
        refine LW.pure rfl rfl (RV.assign rfl) ?_
        refine LW.nil (hK32 _ _ ?_)
        refine CW.ret ?_
        refine ⟨_, (ResOK.one rfl), ?_⟩
        replace H : Hp w wl3 [.tab (some ⟨b2, 0, none⟩) (Int.toNat c.layers) 76 hsL3_3 75 2 (encM encT (tK c k))] := H.pick [0] (by decide) rfl
        replace R0 := H.ext
        refine ⟨(some ⟨b2, 0, none⟩), (Int.toNat c.layers), hsL3_3, ?_, ?_⟩
        · have e : k = c.layers.toNat := by omega
          subst e; have hq := (tK_inv hv hp (k := c.layers.toNat) (Nat.le_refl _)).sq.len; simp [show table c = tK c c.layers.toNat from rfl, hq]
        · have e : k = c.layers.toNat := by omega
          subst e; exact H

end Go.Core
