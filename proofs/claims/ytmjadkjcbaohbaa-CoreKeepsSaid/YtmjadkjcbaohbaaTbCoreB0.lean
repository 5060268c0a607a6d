/- Lemmas and walks that the proof of this claim uses: TbCoreB0. -/
import Derived.Test.YtmjadkjcbaohbaaTbCoreA
import Derived.Test.YtmjadkjcbaohbaaTbList
import Derived.Test.YtmjadkjcbaohbaaShelf
import Derived.Test.YtmjadkjcbaohbaaProg
import Derived.KernelRfl
namespace Go.Core
open Go.Tb Go.Proofs
set_option linter.unusedVariables false
set_option linter.unusedSimpArgs false

theorem c95 : callable Try.prog 95 = true := by kernel_rfl
theorem s43 : tyS Try.prog 43 = some (3, 1, 8, [.int .i64 0]) := by kernel_rfl
theorem u112 : Try.prog.underlying 112 = some (.int .u64) := by kernel_rfl
theorem u112s : (Try.prog.underlying 112).isSome = true := by kernel_rfl
theorem u3 : Try.prog.underlying 3 = some (.int .i64) := by kernel_rfl
theorem u3s : (Try.prog.underlying 3).isSome = true := by kernel_rfl


theorem bits_Mul {x : Int} {y : Int} {w : World} (hx : 0 ≤ x ∧ x ≤ 1000) (hy : 0 ≤ y ∧ y ≤ 1000) : Calls Try.prog 95 #[.int .u64 x, .int .u64 y] w (Ret w (.tuple #[.int .u64 0, .int .u64 (x * y)])) := by
  obtain ⟨a, rfl⟩ := Int.eq_ofNat_of_zero_le hx.1
  obtain ⟨b, rfl⟩ := Int.eq_ofNat_of_zero_le hy.1
  have ha : a ≤ 1000 := by omega
  have hb : b ≤ 1000 := by omega
  have hab : a * b ≤ 1000000 := Nat.mul_le_mul ha hb
  refine (Try.bits_Mul a b (by omega) (by omega) w).mono fun e w' ⟨he, hw⟩ => ?_
  subst hw
  refine ⟨?_, Ext.refl _⟩
  rw [he, Nat.div_eq_of_lt (by omega), Nat.mod_eq_of_lt (by omega)]
  simp

set_option maxRecDepth 20000 in
theorem slices_Repeat0 {x : List Int} {A_x : Option Addr} {c_x : Nat} {count : Int} {v : Int} {w : World} (h_x : Sl w A_x c_x 1 (x.map encI)) (hx : x = [v]) (hc : 1 ≤ count ∧ count ≤ 8) : Calls Try.prog 87 #[.slice A_x x.length c_x, .int .i64 count] w (fun e w' => ∃ (b0 : Nat), e = .returned (.slice (some ⟨b0, 0, none⟩) ((List.replicate (Int.toNat count) v).length) ((List.replicate (Int.toNat count) v).length)) ∧ Blk w' b0 3 ((List.replicate (Int.toNat count) v).flatMap encI) ∧ w.heap.size ≤ b0 ∧ Ext w w') := by
  refine calls_of_cw (args := [.slice A_x x.length c_x, .int .i64 count]) Try.func87 rfl rfl rfl rfl ?_
  have R0 := Ext.refl w
  have hxl : (x.length : Int) = 1 := by rw [hx]; rfl
  refine CW.seq fun K1 hK1 => ?_
  refine CW.region ?_
  refine LW.pure rfl rfl (RV.assign rfl) ?_
  refine LW.nil (hK1 _ _ ?_)
  refine CW.seq fun K2 hK2 => ?_
  refine CW.seq fun K3 hK3 => ?_
  refine CW.region ?_
  refine LW.pure rfl rfl (RV.move rfl) ?_
  refine LW.pure rfl rfl (RV.lss rfl rfl) ?_
  refine LW.nil (hK3 _ _ ?_)
  refine CW.cond rfl (fun h1 => ?_) (fun h1 => ?_)
  ·
    have h1 := of_decide_eq_true h1
    exfalso; omega
  ·
    have h1 := of_decide_eq_false h1
    refine CW.skip (hK2 _ _ ?_)
    refine CW.seq fun K4 hK4 => ?_
    refine CW.region ?_
    refine LW.pure rfl rfl (RV.move rfl) ?_
    refine LW.pure rfl rfl (RV.len s43 rfl) ?_
    refine LW.pure rfl rfl (RV.convII u3s u112 rfl (IntWalk.u64_in _ (by omega))) ?_
    refine LW.pure rfl rfl (RV.move rfl) ?_
    refine LW.pure rfl rfl (RV.convII u3s u112 rfl (IntWalk.u64_in _ (by omega))) ?_
    refine LW.go rfl rfl (OW.call c95 rfl (bits_Mul (x := ((x.length : Nat) : Int)) (y := count) (by omega) (by omega)) ?_)
    rintro _ w1 ⟨rfl, E1⟩
    refine ⟨_, rfl, ?_⟩
    have R0 := R0.trans E1
    rw [show ((x.length : Int) * count) = count from by rw [hxl, Int.one_mul]]
    refine LW.pure rfl rfl (RV.move rfl) ?_
    refine LW.pure rfl rfl (RV.extract rfl rfl) ?_
    refine LW.pure rfl rfl (RV.extract rfl rfl) ?_
    refine LW.pure rfl rfl (RV.assign rfl) ?_
    refine LW.pure rfl rfl (RV.assign rfl) ?_
    refine LW.nil (hK4 _ _ ?_)
    refine CW.seq fun K5 hK5 => ?_
    refine CW.seq fun K6 hK6 => ?_
    refine CW.region ?_
    refine LW.pure rfl rfl (RV.move rfl) ?_
    refine LW.pure rfl rfl (RV.gtr rfl rfl) ?_
    refine LW.pure rfl rfl (RV.move rfl) ?_
    cases h2 : decide (0 < 0)
    ·
      have h2 := of_decide_eq_false h2
      refine LW.pureY rfl rfl rfl rfl (RV.move rfl) ?_
      refine LW.pureY rfl rfl rfl rfl (RV.gtr rfl rfl) ?_
      refine LW.pure rfl rfl (RV.pickF rfl rfl) ?_
      refine LW.nil (hK6 _ _ ?_)
      refine CW.cond rfl (fun h3 => ?_) (fun h3 => ?_)
      ·
        have h3 := of_decide_eq_true h3
        exfalso; omega
      ·
        have h3 := of_decide_eq_false h3
        refine CW.skip (hK5 _ _ ?_)
        refine CW.seq fun K7 hK7 => ?_
        refine CW.region ?_
        refine LW.pure rfl rfl (RV.move rfl) ?_
        refine LW.pure rfl rfl (RV.convII u112s u3 rfl (IntWalk.i64_in _ (by omega))) ?_
        refine LW.go rfl rfl (OW.makeL (enc := encI) 0 s43 rfl rfl rfl rfl rfl (by omega) (by omega) (by omega) fun b1 w2 N1 => ?_)
        have Gb1 : w.heap.size ≤ b1 := N1.ge R0
        have R0 := R0.trans N1.ext
        have Bb1 : Blk w2 b1 3 ((List.replicate (Int.toNat count) 0).flatMap encI) := N1.blk
        refine LW.pure rfl rfl (RV.assign rfl) ?_
        refine LW.nil (hK7 _ _ ?_)
        refine CW.seq fun K8 hK8 => ?_
        refine CW.region ?_
        refine LW.pure rfl rfl (RV.move rfl) ?_
        refine LW.pure rfl rfl (RV.move rfl) ?_
        have hov : over ((List.replicate (Int.toNat count) 0).flatMap encI) 0 [Value.int .i64 v] = (List.replicate 1 v ++ List.replicate (Int.toNat count - 1) 0).flatMap encI := by
          obtain ⟨k, hk⟩ : ∃ k, Int.toNat count = k + 1 := ⟨Int.toNat count - 1, by omega⟩
          rw [hk]; simp [over, List.replicate_succ, encI]
        refine LW.go rfl rfl (OW.copy1 (o := 0) (vs := [.int .i64 v]) s43 rfl (rfl) rfl Bb1 (by simp [encI]) (by simp; omega) (fun _ => by obtain ⟨a, ha⟩ := (h_x.addr (i := 0) (by omega)); exact ⟨a, ha, fun j u hj => by have := (h_x.ext R0).at_ (j := 0) (x := v) (by rw [hx]; rfl); subst ha; simpa [elemPtr, encI, Addr.add] using this j u (by simpa [encI] using hj)⟩) (rfl) fun w3 S1 => ?_)
        have R0 := R0.stored S1 Gb1
        have Bb1 : Blk w3 b1 3 ((List.replicate 1 v ++ List.replicate (Int.toNat count - 1) 0).flatMap encI) := by have h := S1.blk; rw [hov] at h; exact h
        refine LW.pure rfl rfl (RV.assign rfl) ?_
        refine LW.nil (hK8 _ _ ?_)
        refine CW.seq fun K9 hK9 => ?_
        refine CW.block ?_
        refine CW.loop (fun meas ρ wl1 => ∃ (m : Nat), meas = Int.toNat count - m ∧ ρ = [(4, .slice none 0 0), (7, .slice (some ⟨b1, 0, none⟩) (Int.toNat count) (Int.toNat count)), (8, .int .i64 (↑m))] ∧ Ext w wl1 ∧ Blk wl1 b1 3 ((List.replicate m v ++ List.replicate (Int.toNat count - m) 0).flatMap encI) ∧ (1 ≤ m ∧ m ≤ Int.toNat count)) (Int.toNat count - 1) ⟨_, ?_, 1, rfl, rfl, R0, Bb1, ?_⟩ ?_
        · exact ⟨rfl, rfl, look_int rfl (by first | rfl | omega | (simp; omega)), trivial⟩
        · omega
        rintro _ _ wl1 ⟨m, rfl, rfl, R0, Bb1, hI1⟩
        refine CW.seq fun K10 hK10 => ?_
        refine CW.seq fun K11 hK11 => ?_
        refine CW.region ?_
        refine LW.pure rfl rfl (RV.move rfl) ?_
        refine LW.pure rfl rfl (RV.move rfl) ?_
        refine LW.pure rfl rfl (RV.len s43 rfl) ?_
        refine LW.pure rfl rfl (RV.lss rfl rfl) ?_
        refine LW.nil (hK11 _ _ ?_)
        refine CW.cond rfl (fun h4 => ?_) (fun h4 => ?_)
        ·
          have h4 := of_decide_eq_true h4
          refine CW.skip (hK10 _ _ ?_)
          refine CW.block ?_
          refine CW.draw [7] (fun _ => True) (.cons 0 2 (.cons 1 2 (.cons 2 2 (.cons 3 1 (.cons 4 2 (.cons 5 2 (.cons 6 1 (.cons 7 0 (.cons 8 2 (.cons 9 2 (.nil))))))))))) mixed (by kernel_rfl) fun w4 E2 => ?_
          have R0 := R0.trans E2
          have Bb1 := Bb1.ext E2
          refine DW.thru rfl rfl rfl (fun _ EQ => RV.move rfl) ?_
          refine DW.thru rfl rfl rfl (fun _ EQ => RV.move rfl) ?_
          refine DW.thru rfl rfl rfl (fun _ EQ => RV.move rfl) ?_
          refine DW.fix rfl rfl rfl (fun _ EQ => RV.sliceLoO s43 rfl rfl (by omega) (by omega) (by omega)) ?_
          refine DW.thru rfl rfl rfl (fun _ EQ => RV.move rfl) ?_
          refine DW.thru rfl rfl rfl (fun _ EQ => RV.move rfl) ?_
          refine DW.fix rfl rfl rfl (fun _ EQ => RV.sliceHi s43 rfl rfl (by omega)) ?_
          have hsrc := fill_src (enc := encI) (u := .int .i64 v) rfl Bb1
          refine DW.sole rfl rfl rfl (OW.copy1 (o := m) (vs := List.replicate (min m (Int.toNat count - m)) (.int .i64 v)) s43 rfl (by simp) rfl Bb1 (by rw [len_flatMap (k := 1) (fun _ => rfl)]; simp <;> omega) (by simp) (fun _ => ⟨_, rfl, fun j u hj => hsrc j u hj⟩) (by simp [List.all_eq_true, Value.oneCell']) fun w5 S2 => ?_)
          refine ⟨fun h => absurd h (by decide), S2.modx trivial, ?_⟩
          have R0 := R0.stored S2 Gb1
          have Bb1 : Blk w5 b1 3 ((List.replicate (m + min m (Int.toNat count - m)) v ++ List.replicate (Int.toNat count - (m + min m (Int.toNat count - m))) 0).flatMap encI) := by have h := S2.blk; rw [repeat_step (enc := encI) (u := .int .i64 v) rfl 0 (Int.toNat count) m rfl (by omega)] at h; exact h
          refine DW.thru rfl rfl rfl (fun _ EQ => RV.add rfl rfl (by omega)) ?_
          refine DW.thru rfl rfl rfl (fun _ EQ => RV.assign rfl) ?_
          refine DW.nil ?_
          refine ⟨_, ?_, _, ?_, m + min m (Int.toNat count - m), rfl, rfl, R0, Bb1, ?_⟩
          · omega
          · exact ⟨rfl, rfl, look_int rfl (by first | rfl | omega | (simp; omega)), trivial⟩
          · omega
        ·
          have h4 := of_decide_eq_false h4
          refine CW.exit (hK9 _ _ ?_)
          refine CW.seq fun K12 hK12 => ?_
          refine CW.region ?_
          refine LW.pure rfl rfl (RV.move rfl) ?_
          refine LW.pure rfl rfl (RV.assign rfl) ?_
          refine LW.nil (hK12 _ _ ?_)
          refine CW.ret ?_
          refine ⟨_, (ResOK.one rfl), ?_⟩
          refine ⟨b1, ?_, ?_, ?_, R0⟩
          · simp
          · have e : m = Int.toNat count := by omega
            subst e; simpa using Bb1
          · exact Gb1
    ·
      have h2 := of_decide_eq_true h2
      exfalso; simp at h2

end Go.Core
