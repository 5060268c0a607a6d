/- Lemmas and walks that the proof of this claim uses: Tb29, D2s1, Tb30, D2s2, D2m2D, TbDrainOpen, D2m3D, D2m4D, D2m10D, D2m13D, Tb31, D2n1D, TbDrainOpen2, D2n2D, D2n3D, D2m2. -/
import Derived.Test.YtmpmomboclhjoaaDrainSums0
set_option linter.unusedVariables false
set_option linter.unusedSimpArgs false
namespace Go.Tb
open Go.RowKit
section
variable {P : Program} {n : Nat} {ops : Array Oper} {Q : Exit → Env → World → Prop} {ρ : Env} {w : World}
variable {d : Option Tmp} {ty : TypeId} {pos : String} {after : Array Edge} {g : Option (Nat × Bool)} {K : Value → World → Prop}
theorem RV.mkIface {t : Nat} {x : Operand} {v : Value} {ds : TypeDesc} (hT : P.underlying t = some ds) (hn : (match ds with | .interface _ => true | _ => false) = false) (hx : ev ρ x = some v) : RV P n ⟨d, .makeInterface t x, ty, pos, after, g⟩ ρ w (.iface t v) :=
  (fun a ha => by
    simp only [execOp, ha.ev hx, Instr.makeInterface, Sem.run_bind, run_underlying hT, Result.andThen_ok]
    cases ds <;> simp_all)
theorem OW.panicI {t : Nat} {x : Operand} {v : Value} (hx : ev ρ x = some (.iface t v)) (q : Q (.panic [{ v := .iface t v, recovered := false }]) ρ w) : OW P n Q ⟨d, .panic x, ty, pos, after, g⟩ ρ w K := fun a ha => by
  unfold wpV
  simp only [execOp, ha.ev hx, Sem.run_bind, run_panic_iface, Result.andThen]
  exact q
theorem OW.callP {f : FuncId} {args : Array Operand} {tys : Array TypeId} {vs : List Value} {R : Ending → World → Prop} (hf : callable P f = true) (hargs : evs ρ args.toList = some vs)
    (hc : Calls P f vs.toArray w R) (k : ∀ e w', R e w' → (∃ v, e = .returned v ∧ K v w') ∨ (∃ c, e = .panicked c ∧ Q (.panic c) ρ w')) : OW P n Q ⟨d, .call ⟨.value (.func f), args, tys⟩, ty, pos, after, g⟩ ρ w K := fun a ha => by
  have h1 : args.map a.eval = vs.toArray := by
    have := ha.evs hargs
    apply Array.toList_inj.1
    rw [Array.toList_map]; exact this
  unfold wpV
  have he : (execOp a.eval ⟨d, .call ⟨.value (.func f), args, tys⟩, ty, pos, after, g⟩).run P w = .ok (.enter f vs.toArray) w := by
    simp only [execOp, resolve, Act.eval, Deferred.ofValue, Sem.run_bind, Sem.run_pure, Result.andThen_ok, invoke]
    rw [show (Array.map a.eval args) = vs.toArray from h1]
    simpa using run_callFunc hf _
  rw [he]
  refine hc.mono fun e w' hr => ?_
  rcases k e w' hr with ⟨v, rfl, hk⟩ | ⟨c, rfl, hq⟩
  · exact hk
  · exact hq
theorem RV.eqnilL {α : Type} {t u e m bt : Nat} {z : List Value} {l : List α} {x y : Operand} {A : Option Addr} {k c : Nat} (hT : tyS P t = some (e, m, bt, z)) (hx : ev ρ x = some (.slice A k c)) (hy : ev ρ y = some (.slice none 0 0)) (h : A = none ↔ l = []) [Decidable (l = [])] : RV P n ⟨d, .binOp .eql t x y u, ty, pos, after, g⟩ ρ w (.bool (decide (l = []))) := by
  cases A with
  | none =>
    rw [decide_eq_true (h.1 rfl)]
    exact RV.eqnil hT hx hy
  | some a =>
    rw [decide_eq_false (fun hc => by have := h.2 hc; cases this)]
    exact RV.eqnil hT hx hy
end
theorem Own.ne {w : World} {A : Option Addr} {c : Nat} {e : TypeId} {k : Nat} {rows : List (List Value)} (h : Own w A c e k rows) (hr : rows ≠ []) : A ≠ none := by
  rintro rfl
  rcases h.blk with ⟨_, h1, _⟩ | ⟨b, sp, h1, _⟩
  · exact hr h1
  · cases h1
end Go.Tb

set_option linter.unusedVariables false
set_option linter.unusedSimpArgs false
namespace Go.D2
open Go.Tb Go.Proofs Go.RowKit
def encLeft (x : Left) : List Value := [.int .i64 x.drain.from_, .int .i64 x.drain.to_, .int .i64 x.drain.width, .int .i64 x.runs]
def toEd (d : Left) : Ed := ⟨d.drain.from_, d.drain.to_, d.drain.width, d.runs⟩
theorem Ts63' : tyS Try.prog 63 = some (87, 4, 32, [.int .i64 0, .int .i64 0, .int .i64 0, .int .i64 0]) := by kernel_rfl
theorem Ts30' : tyS Try.prog 30 = some (3, 1, 8, [.int .i64 0]) := by kernel_rfl
theorem Tk87' : tyK Try.prog 87 = some (true, 4) := by kernel_rfl
theorem Tk3' : tyK Try.prog 3 = some (false, 1) := by kernel_rfl
theorem Tz87' : tyZ Try.prog 87 = some (.agg #[.int .i64 0, .int .i64 0, .int .i64 0, .int .i64 0]) := by kernel_rfl
theorem Tz4' : tyZ Try.prog 4 = some (.bool false) := by kernel_rfl
theorem Tm96' : tyM Try.prog 96 = some (3, 4) := by kernel_rfl
theorem KO3' : KeyOK Try.prog 3 ekI eqI := KeyOK.int (by kernel_rfl)
theorem Tc94' : callable Try.prog 94 = true := by kernel_rfl
theorem Tc90' : callable Try.prog 90 = true := by kernel_rfl
theorem Tc86' : callable Try.prog 86 = true := by kernel_rfl
theorem Tf87_0' : tyF Try.prog 87 0 = some 0 := by kernel_rfl
theorem Tf52_0' : tyF Try.prog 52 0 = some 0 := by kernel_rfl
theorem Tf52_1' : tyF Try.prog 52 1 = some 1 := by kernel_rfl
theorem Tu93' : Try.prog.underlying 93 = some (.struct (Try.prog.fieldsOf 93)) := by kernel_rfl
def LookR (wb : World) (b : Nat) (A : Option Addr) (c : Nat) (dr : List Int) (R : List Ck) (res : Seen ⊕ List Int) (e : Ending) (w' : World) : Prop :=
  match res with
  | .inl s' => e = .returned (.tuple #[]) ∧ Hp wb w' ([.mp b (encMap ekI ekBl s'), .own A c 3 1 (dr.map encN)] ++ R)
  | .inr x => ∃ (A' : Option Addr) (c' : Nat), e = .panicked [{ v := .iface 93 (.agg #[.slice A' x.length c']), recovered := false }] ∧ Hp wb w' ([.own A' c' 3 1 (x.map encN)] ++ R)
set_option maxRecDepth 20000 in
set_option maxHeartbeats 1000000 in
theorem look_ok {L : List Left} {A_l : Option Addr} {c_l : Nat} {wb : World} (hl : Sl wb A_l c_l 4 (L.map encLeft)) : ∀ (k : Nat) {u t : Int} {s : Seen} {dr : List Int} {b : Nat} {A : Option Addr} {c : Nat} {R : List Ck} {w : World} {res : Seen ⊕ List Int},
    dfs (L.map toEd) t k u s dr = some res → Hp wb w ([.mp b (encMap ekI ekBl s), .own A c 3 1 (dr.map encN)] ++ R) →
    Calls Try.prog 94 #[.slice A_l L.length c_l, .int .i64 u, .int .i64 t, .map (some b), .slice A dr.length c] w (LookR wb b A c dr R res)
  | 0, u, t, s, dr, b, A, c, R, w, res, F, H => by cases F
  | k + 1, u, t, s, dr, b, A, c, R, w, res, F, H => by
    have IH := fun {u t : Int} {s : Seen} {dr : List Int} {b : Nat} {A : Option Addr} {c : Nat} {R : List Ck} {w : World} {res : Seen ⊕ List Int} => look_ok hl k (u := u) (t := t) (s := s) (dr := dr) (b := b) (A := A) (c := c) (R := R) (w := w) (res := res)
    refine calls_of_cw (args := [.slice A_l L.length c_l, .int .i64 u, .int .i64 t, .map (some b), .slice A dr.length c]) Try.func94 rfl rfl rfl rfl ?_
    have R0 := H.ext
    simp only [dfs] at F
    refine CW.seq fun K1 hK1 => ?_
    refine CW.seq fun K2 hK2 => ?_
    refine CW.region ?_
    refine LW.pure rfl rfl (RV.move rfl) ?_
    refine LW.pure rfl rfl (RV.move rfl) ?_
    refine LW.pure rfl rfl (RV.eqi rfl rfl) ?_
    refine LW.nil (hK2 _ _ ?_)
    by_cases hp1 : u = t
    · rw [if_pos hp1] at F
      obtain ⟨hg, F⟩ := gd_some F
      cases F
      refine CW.condT rfl (dec_t hp1) ?_
      refine CW.region ?_
      refine LW.pure rfl rfl (RV.move rfl) ?_
      refine LW.go rfl rfl (OW.call Tc86' rfl (slices_Clone_int_ok (a0 := dr) (res := dr) (H.own 1 rfl).sl (by unfold slices_Clone_int; rw [gd_pos (by simpa using hg)]; rfl)) ?_)
      rintro _ w3 ⟨A3, c3, rfl, E1⟩
      refine ⟨_, rfl, ?_⟩
      replace H := H.append E1
      refine LW.pure rfl rfl (RV.build (vs := [.slice A3 dr.length c3]) (cs := [.slice A3 dr.length c3]) rfl (fun _ => by kernel_rfl)) ?_
      refine LW.pure rfl rfl (RV.mkIface Tu93' rfl rfl) ?_
      refine LW.go rfl rfl (OW.panicI rfl ?_)
      refine ⟨A3, c3, rfl, ?_⟩
      exact H.pickR (C := [.own A3 c3 3 1 (dr.map encN), .mp b (encMap ekI ekBl s), .own A c 3 1 (dr.map encN)]) (C' := [.own A3 c3 3 1 (dr.map encN)]) [0] (by decide) rfl
    · rw [if_neg hp1] at F
      refine CW.condF rfl (dec_f hp1) ?_
      refine CW.skip (hK1 _ _ ?_)
      refine CW.seq fun K3 hK3 => ?_
      refine CW.region ?_
      refine LW.pure rfl rfl (RV.move rfl) ?_
      refine LW.pure rfl rfl (RV.move rfl) ?_
      refine LW.go rfl rfl (OW.updateM (ek := ekI) (ev' := ekBl) (eq := eqI) (m := s) u true KO3' Tm96' rfl rfl rfl (H.mp 0 rfl) fun w4 M4 O4 => ?_)
      replace H : Hp wb w4 ([.mp b (encMap ekI ekBl (mset eqI s u true)), .own A c 3 1 (dr.map encN)] ++ R) := H.setM 0 rfl M4 O4
      replace R0 := H.ext
      refine LW.nil (hK3 _ _ ?_)
      generalize mset eqI s u true = s1 at F H
      refine CW.seq fun K4 hK4 => ?_
      refine CW.region ?_
      refine LW.pure rfl rfl (RV.move rfl) ?_
      refine LW.pure rfl rfl (RV.len Ts63' rfl) ?_
      refine LW.pure rfl rfl (RV.move rfl) ?_
      refine LW.nil (hK4 _ _ ?_)
      refine CW.block ?_
      refine CW.loop (fun meas ρ wl => ∃ (j : Nat) (s2 : Seen) (r : List Ed), meas = L.length - j ∧ j ≤ L.length ∧ (∀ i, r[i]? = (L.map toEd)[j + i]?) ∧ scan (dfs (L.map toEd) t k) u dr r (j : Int) s2 = some res ∧
        ρ = [(0, .slice A_l L.length c_l), (1, .int .i64 u), (2, .int .i64 t), (3, .map (some b)), (4, .slice A dr.length c), (23, .slice A_l L.length c_l), (24, .int .i64 (L.length : Int)), (25, .int .i64 (j : Int))] ∧
        Hp wb wl ([.mp b (encMap ekI ekBl s2), .own A c 3 1 (dr.map encN)] ++ R)) L.length ⟨_, ?_, 0, s1, L.map toEd, rfl, Nat.zero_le _, (fun i => by simp), F, rfl, H⟩ ?_
      · exact ⟨rfl, rfl, rfl, rfl, rfl, rfl, rfl, rfl, trivial⟩
      rintro _ _ wl ⟨j, s2, r, rfl, hj, hr, F, rfl, H⟩
      have R0 := H.ext
      refine CW.seq fun K5 hK5 => ?_
      refine CW.region ?_
      refine LW.pure rfl rfl (RV.lss rfl rfl) ?_
      refine LW.nil (hK5 _ _ ?_)
      refine CW.seq fun K6 hK6 => ?_
      by_cases hp2 : (j : Int) < (L.length : Int)
      · refine CW.condT rfl (dec_t hp2) ?_
        refine CW.skip (hK6 _ _ ?_)
        have hjl : j < L.length := by omega
        obtain ⟨x, hx⟩ : ∃ x, L[j]? = some x := ⟨L[j], by simp [hjl]⟩
        obtain ⟨r', rfl⟩ : ∃ r', r = toEd x :: r' := by
          have h0 := hr 0
          rw [Nat.add_zero, List.getElem?_map, hx] at h0
          cases r with
          | nil => simp at h0
          | cons e r' => simp at h0; exact ⟨r', by rw [h0]⟩
        have hr' : ∀ i, r'[i]? = (L.map toEd)[j + 1 + i]? := fun i => by
          have := hr (i + 1)
          rw [show j + 1 + i = j + (i + 1) by omega]; simpa using this
        -- the end of a round
        have fin_ : ∀ (s3 : Seen) (w9 : World) (ρ9 : Env) (Q9 : Exit → Env → World → Prop), True := fun _ _ _ _ => trivial
        simp only [scan] at F
        refine CW.seq fun K7 hK7 => ?_
        have step : ∀ (s3 : Seen) (w9 : World) (ρ9 : Env), scan (dfs (L.map toEd) t k) u dr r' ((j : Int) + 1) s3 = some res → Hp wb w9 ([.mp b (encMap ekI ekBl s3), .own A c 3 1 (dr.map encN)] ++ R) →
            Sub [(0, .slice A_l L.length c_l), (1, .int .i64 u), (2, .int .i64 t), (3, .map (some b)), (4, .slice A dr.length c), (23, .slice A_l L.length c_l), (24, .int .i64 (L.length : Int)), (25, .int .i64 (j : Int))] ρ9 → K7 ρ9 w9 := by
          intro s3 w9 ρ9 F9 H9 hs
          refine hK7 _ _ ?_
          refine CW.sub _ hs ?_
          refine CW.region ?_
          refine LW.pure rfl rfl (RV.add rfl rfl (by have := hl.cap; have := hl.len; simp at this; omega)) ?_
          refine LW.pure rfl rfl (RV.move rfl) ?_
          refine LW.nil ?_
          refine ⟨L.length - (j + 1), by omega, _, ?_, j + 1, s3, r', rfl, by omega, hr', by rw [show ((j + 1 : Nat) : Int) = (j : Int) + 1 by omega]; exact F9, rfl, H9⟩
          exact ⟨rfl, rfl, rfl, rfl, rfl, rfl, rfl, rfl, trivial⟩
        refine CW.block ?_
        refine CW.seq fun K8 hK8 => ?_
        refine CW.region ?_
        refine LW.pure rfl rfl (RV.move rfl) ?_
        refine LW.pure rfl rfl (RV.indexAddr Ts63' rfl rfl ⟨by omega, hp2⟩ (hl.addr_ hx)) ?_
        refine LW.pure rfl rfl (RV.loadA [.int .i64 x.drain.from_, .int .i64 x.drain.to_, .int .i64 x.drain.width, .int .i64 x.runs] Tk87' rfl (((hl.ext R0).at_ hx)) rfl rfl) ?_
        refine LW.go rfl rfl (OW.alloc Tz87' fun b5 w5 N5 => ?_)
        replace H := H.new N5 N5.blk
        refine LW.pure rfl rfl (RV.assign rfl) ?_
        refine LW.go rfl rfl (OW.store Tk87' rfl rfl (H.blk 0 rfl) (off := 0) (vs := [.int .i64 x.drain.from_, .int .i64 x.drain.to_, .int .i64 x.drain.width, .int .i64 x.runs]) rfl rfl rfl rfl rfl fun w6 S6 => ?_)
        replace H : Hp wb w6 ([.blk b5 87 [.int .i64 x.drain.from_, .int .i64 x.drain.to_, .int .i64 x.drain.width, .int .i64 x.runs], .mp b (encMap ekI ekBl s2), .own A c 3 1 (dr.map encN)] ++ R) := H.stored 0 rfl S6
        replace R0 := H.ext
        refine LW.nil (hK8 _ _ ?_)
        refine CW.seq fun K9 hK9 => ?_
        refine CW.seq fun K10 hK10 => ?_
        refine CW.region ?_
        refine LW.pure rfl rfl (RV.fieldAddr Tf87_0' rfl) ?_
        refine LW.pure rfl rfl (RV.fieldAddr Tf52_0' rfl) ?_
        refine LW.pure rfl rfl (RV.load1 Tk3' rfl (((H.blk 0 rfl).cells.off 0).off 0) rfl) ?_
        refine LW.pure rfl rfl (RV.move rfl) ?_
        refine LW.pure rfl rfl (RV.nei rfl rfl) ?_
        refine LW.pure rfl rfl (RV.move rfl) ?_
        -- is one of its ends here?
        have go : ∀ (q : Bool) (ρ9 : Env), Tb.look ρ9 41 = some (.bool q) → q = !(decide (x.drain.from_ = u) || decide (x.drain.to_ = u)) →
            Sub [(0, .slice A_l L.length c_l), (1, .int .i64 u), (2, .int .i64 t), (3, .map (some b)), (4, .slice A dr.length c), (10, .int .i64 (j : Int)), (11, .pointer (some ⟨b5, 0, none⟩)), (23, .slice A_l L.length c_l), (24, .int .i64 (L.length : Int)), (25, .int .i64 (j : Int))] ρ9 → K10 ρ9 w6 := by
          intro q ρ9 hq hqe hs
          refine hK10 _ _ ?_
          by_cases hin : (toEd x).a = u ∨ (toEd x).b = u
          · rw [if_pos hin] at F
            have hqf : q = false := by
              rw [hqe]
              rcases hin with h | h
              · have h : x.drain.from_ = u := h
                simp [h]
              · have h : x.drain.to_ = u := h
                simp [h]
            refine CW.condF (show ev ρ9 _ = some (.bool q) from hq) hqf ?_
            refine CW.skip (hK9 _ _ ?_)
            refine CW.sub _ hs ?_
            obtain ⟨hroom, F⟩ := gd_some F
            have hroom' : drain_left_room x u = some (other (toEd x) u, room (toEd x) u) := by
              unfold drain_left_room
              unfold room at hroom
              unfold other room
              by_cases h : x.drain.from_ = u
              · have h' : (toEd x).a = u := h
                rw [if_pos h'] at hroom
                rw [if_pos h, if_pos h', if_pos h']; exact gd_pos hroom
              · have h' : ¬ (toEd x).a = u := h
                rw [if_neg h, if_neg h', if_neg h']; rfl
            generalize hoo : other (toEd x) u = oo at F hroom'
            generalize hrr : room (toEd x) u = rr at F hroom'
            refine CW.seq fun K11 hK11 => ?_
            refine CW.region ?_
            refine LW.pure rfl rfl (RV.loadA [.int .i64 x.drain.from_, .int .i64 x.drain.to_, .int .i64 x.drain.width, .int .i64 x.runs] Tk87' rfl (H.blk 0 rfl).cells rfl rfl) ?_
            refine LW.pure rfl rfl (RV.move rfl) ?_
            refine LW.go rfl rfl (OW.call Tc90' rfl (drain_left_room_ok (a0 := x) (a1 := u) hroom') ?_)
            rintro _ w7 ⟨rfl, E7⟩
            refine ⟨_, rfl, ?_⟩
            replace H := H.grow E7
            replace R0 := H.ext
            refine LW.pure rfl rfl (RV.move rfl) ?_
            refine LW.pure rfl rfl (RV.extract rfl rfl) ?_
            refine LW.pure rfl rfl (RV.extract rfl rfl) ?_
            refine LW.pure rfl rfl (RV.assign rfl) ?_
            refine LW.pure rfl rfl (RV.assign rfl) ?_
            refine LW.nil (hK11 _ _ ?_)
            replace H : Hp wb w7 ([.mp b (encMap ekI ekBl s2), .own A c 3 1 (dr.map encN)] ++ ([.blk b5 87 [.int .i64 x.drain.from_, .int .i64 x.drain.to_, .int .i64 x.drain.width, .int .i64 x.runs]] ++ R)) :=
              H.pickR (C := [.blk b5 87 [.int .i64 x.drain.from_, .int .i64 x.drain.to_, .int .i64 x.drain.width, .int .i64 x.runs], .mp b (encMap ekI ekBl s2), .own A c 3 1 (dr.map encN)]) (C' := [.mp b (encMap ekI ekBl s2), .own A c 3 1 (dr.map encN), .blk b5 87 [.int .i64 x.drain.from_, .int .i64 x.drain.to_, .int .i64 x.drain.width, .int .i64 x.runs]]) [1, 2, 0] (by decide) rfl
            have Hs : Hp wb w7 ([.mp b (encMap ekI ekBl s2), .own A c 3 1 (dr.map encN)] ++ R) :=
              H.pickR (C := [.mp b (encMap ekI ekBl s2), .own A c 3 1 (dr.map encN), .blk b5 87 [.int .i64 x.drain.from_, .int .i64 x.drain.to_, .int .i64 x.drain.width, .int .i64 x.runs]]) (C' := [.mp b (encMap ekI ekBl s2), .own A c 3 1 (dr.map encN)]) [0, 1] (by decide) rfl
            refine CW.seq fun K12 hK12 => ?_
            have skip_ : ∀ (ρ8 : Env), Tb.look ρ8 55 = some (.bool false) → ¬ (0 < rr ∧ sees s2 oo = false) →
                Sub [(0, .slice A_l L.length c_l), (1, .int .i64 u), (2, .int .i64 t), (3, .map (some b)), (4, .slice A dr.length c), (23, .slice A_l L.length c_l), (24, .int .i64 (L.length : Int)), (25, .int .i64 (j : Int))] ρ8 → K12 ρ8 w7 := by
              intro ρ8 h8 hn hs8
              rw [if_neg hn] at F
              refine hK12 _ _ ?_
              refine CW.condF (show ev ρ8 _ = some (.bool false) from h8) rfl ?_
              refine CW.skip ?_
              exact step s2 w7 ρ8 F Hs hs8
            refine CW.region ?_
            refine LW.pure rfl rfl (RV.move rfl) ?_
            refine LW.pure rfl rfl (RV.gtr rfl rfl) ?_
            refine LW.pure rfl rfl (RV.move rfl) ?_
            by_cases hp3 : (0 : Int) < rr
            · refine LW.pureYB rfl rfl rfl rfl (dec_t hp3) (RV.move rfl) ?_
              refine LW.pureYB rfl rfl rfl rfl (dec_t hp3) (RV.move rfl) ?_
              refine LW.pureYB rfl rfl rfl rfl (dec_t hp3) (RV.lookupM (ek := ekI) (ev' := ekBl) (eq := eqI) (m := s2) oo false KO3' Tm96' Tz4' rfl rfl (H.mp 0 rfl)) ?_
              refine LW.pureYB rfl rfl rfl rfl (dec_t hp3) (RV.not rfl) ?_
              refine LW.pure rfl rfl (RV.pickTB rfl (dec_t hp3) rfl) ?_
              refine LW.nil ?_
              cases hsee : sees s2 oo
              · rw [if_pos ⟨hp3, hsee⟩] at F
                obtain ⟨hlen, F⟩ := gd_some F
                refine hK12 _ _ ?_
                refine CW.condT rfl (show (!(mget eqI s2 oo).getD false) = true by unfold sees at hsee; rw [hsee]; rfl) ?_
                refine CW.region ?_
                refine LW.pure rfl rfl (RV.move rfl) ?_
                refine LW.pure rfl rfl (RV.move rfl) ?_
                refine LW.pure rfl rfl (RV.move rfl) ?_
                refine LW.pure rfl rfl (RV.move rfl) ?_
                refine LW.pure rfl rfl (RV.move rfl) ?_
                refine LW.pure rfl rfl (RV.move rfl) ?_
                refine LW.go rfl rfl (OW.buildSlice (e := 3) (vs := [.int .i64 (j : Int)]) (cs := [.int .i64 (j : Int)]) rfl (fun _ => by kernel_rfl) fun b8 w8 N8 => ?_)
                replace H := H.made' (k := 1) (t := 3) (n := 1) (enc := encN) (l := [(j : Int)]) N8 N8.blk (fun _ => rfl) rfl (by omega)
                replace R0 := H.ext
                refine LW.go rfl rfl (OW.appendC (enc := encN) (l := dr) (xs := [(j : Int)]) Ts30' rfl rfl (H.own 2 rfl) (H.own 0 rfl).sl (fun _ => rfl) rfl rfl hlen (by omega) (by simp) fun A9 c9 w9 O9 D9 => ?_)
                generalize hres : dfs (L.map toEd) t k oo s2 (dr ++ [(j : Int)]) = q at F
                cases q with
                | none => cases F
                | some q =>
                -- the state at the call, and what is left of it
                have key : ∃ (R' : List Ck), Hp wb w9 ([.mp b (encMap ekI ekBl s2), .own A9 c9 3 1 ((dr ++ [(j : Int)]).map encN)] ++ R') ∧
                    (∀ (s3 : Seen) (w10 : World), Hp wb w10 ([.mp b (encMap ekI ekBl s3), .own A9 c9 3 1 ((dr ++ [(j : Int)]).map encN)] ++ R') → Hp wb w10 ([.mp b (encMap ekI ekBl s3), .own A c 3 1 (dr.map encN)] ++ R)) ∧ (∀ (y : Ck) (w10 : World), Hp wb w10 ([y] ++ R') → Hp wb w10 ([y] ++ R)) := by
                  rcases D9 with ⟨rfl, rfl, hA, M9⟩ | ⟨b9, rfl, hb9, E9⟩
                  · have H1 := H.mod 2 rfl M9 O9 (.inl rfl)
                    refine ⟨R, ?_, fun s3 w10 H10 => ?_, fun _ _ h => h⟩
                    · exact H1.pickR (C := [.own (some ⟨b8, 0, none⟩) 1 3 1 (List.map encN [(j : Int)]), .mp b (encMap ekI ekBl s2), .own A9 c9 3 1 ((dr ++ [(j : Int)]).map encN), .blk b5 87 [.int .i64 x.drain.from_, .int .i64 x.drain.to_, .int .i64 x.drain.width, .int .i64 x.runs]]) (C' := [.mp b (encMap ekI ekBl s2), .own A9 c9 3 1 ((dr ++ [(j : Int)]).map encN)]) [1, 2] (by decide) rfl
                    · have o := H10.own 1 rfl
                      rw [List.map_append] at o
                      exact H10.weaken 1 rfl (y := .own A9 c9 3 1 (dr.map encN)) (o.shrink hA) (fun _ h => h)
                  · have H1 := H.newOwn E9 O9 (fun a ha => by cases ha; exact hb9)
                    refine ⟨[.own A c 3 1 (dr.map encN)] ++ R, ?_, fun s3 w10 H10 => ?_, fun y w10 H10 => H10.pickR (C := [y, .own A c 3 1 (dr.map encN)]) (C' := [y]) [0] (by decide) rfl⟩
                    · exact H1.pickR (C := [.own (some ⟨b9, 0, none⟩) c9 3 1 ((dr ++ [(j : Int)]).map encN), .own (some ⟨b8, 0, none⟩) 1 3 1 (List.map encN [(j : Int)]), .mp b (encMap ekI ekBl s2), .own A c 3 1 (dr.map encN), .blk b5 87 [.int .i64 x.drain.from_, .int .i64 x.drain.to_, .int .i64 x.drain.width, .int .i64 x.runs]]) (C' := [.mp b (encMap ekI ekBl s2), .own (some ⟨b9, 0, none⟩) c9 3 1 ((dr ++ [(j : Int)]).map encN), .own A c 3 1 (dr.map encN)]) [2, 0, 3] (by decide) rfl
                    · exact H10.pickR (C := [.mp b (encMap ekI ekBl s3), .own (some ⟨b9, 0, none⟩) c9 3 1 ((dr ++ [(j : Int)]).map encN), .own A c 3 1 (dr.map encN)]) (C' := [.mp b (encMap ekI ekBl s3), .own A c 3 1 (dr.map encN)]) [0, 2] (by decide) rfl
                obtain ⟨R', Hc, back, back2⟩ := key
                refine LW.go rfl rfl (OW.callP Tc94' rfl (IH hres Hc) ?_)
                intro e w10 hq10
                cases q with
                | inl s3 =>
                  obtain ⟨rfl, H10⟩ := hq10
                  refine .inl ⟨_, rfl, ?_⟩
                  refine LW.nil ?_
                  exact step s3 w10 _ F (back s3 w10 H10) ⟨rfl, rfl, rfl, rfl, rfl, rfl, rfl, rfl, trivial⟩
                | inr y =>
                  obtain ⟨A', c', rfl, H10⟩ := hq10
                  cases F
                  exact .inr ⟨_, rfl, A', c', rfl, back2 _ _ H10⟩
              · refine skip_ _ (look_bool rfl (show (!(mget eqI s2 oo).getD false) = false by unfold sees at hsee; rw [hsee]; rfl)) (fun h => by rw [hsee] at h; cases h.2) ⟨rfl, rfl, rfl, rfl, rfl, rfl, rfl, rfl, trivial⟩
            · refine LW.noB rfl rfl rfl rfl (ne_beq (v := false) (dec_f hp3) rfl) ?_
              refine LW.noB rfl rfl rfl rfl (ne_beq (v := false) (dec_f hp3) rfl) ?_
              refine LW.noB rfl rfl rfl rfl (ne_beq (v := false) (dec_f hp3) rfl) ?_
              refine LW.noB rfl rfl rfl rfl (ne_beq (v := false) (dec_f hp3) rfl) ?_
              refine LW.pure rfl rfl (RV.pickFB rfl (dec_f hp3) rfl) ?_
              refine LW.nil ?_
              exact skip_ _ rfl (fun h => hp3 h.1) ⟨rfl, rfl, rfl, rfl, rfl, rfl, rfl, rfl, trivial⟩
          · rw [if_neg hin] at F
            have hqt : q = true := by
              rw [hqe]
              have h1 : ¬ x.drain.from_ = u := fun h => hin (.inl h)
              have h2 : ¬ x.drain.to_ = u := fun h => hin (.inr h)
              simp [h1, h2]
            refine CW.condT (show ev ρ9 _ = some (.bool q) from hq) hqt ?_
            refine CW.exit ?_
            have Hs : Hp wb w6 ([.mp b (encMap ekI ekBl s2), .own A c 3 1 (dr.map encN)] ++ R) :=
              H.pickR (C := [.blk b5 87 [.int .i64 x.drain.from_, .int .i64 x.drain.to_, .int .i64 x.drain.width, .int .i64 x.runs], .mp b (encMap ekI ekBl s2), .own A c 3 1 (dr.map encN)]) (C' := [.mp b (encMap ekI ekBl s2), .own A c 3 1 (dr.map encN)]) [1, 2] (by decide) rfl
            refine step s2 w6 ρ9 F Hs ?_
            obtain ⟨h0, h1, h2, h3, h4, _, _, h5, h6, h7, _⟩ := hs
            exact ⟨h0, h1, h2, h3, h4, h5, h6, h7, trivial⟩
        by_cases hp4 : x.drain.from_ = u
        · have hb4 : (!decide (x.drain.from_ = u)) = false := by simp [hp4]
          refine LW.noB rfl rfl rfl rfl (ne_beq (v := false) hb4 rfl) ?_
          refine LW.noB rfl rfl rfl rfl (ne_beq (v := false) hb4 rfl) ?_
          refine LW.noB rfl rfl rfl rfl (ne_beq (v := false) hb4 rfl) ?_
          refine LW.noB rfl rfl rfl rfl (ne_beq (v := false) hb4 rfl) ?_
          refine LW.noB rfl rfl rfl rfl (ne_beq (v := false) hb4 rfl) ?_
          refine LW.pure rfl rfl (RV.pickFB rfl hb4 rfl) ?_
          refine LW.nil ?_
          exact go false _ rfl (by simp [hp4]) ⟨rfl, rfl, rfl, rfl, rfl, rfl, rfl, rfl, rfl, rfl, trivial⟩
        · have hb4 : (!decide (x.drain.from_ = u)) = true := by simp [hp4]
          refine LW.pureYB rfl rfl rfl rfl hb4 (RV.fieldAddr Tf87_0' rfl) ?_
          refine LW.pureYB rfl rfl rfl rfl hb4 (RV.fieldAddr Tf52_1' rfl) ?_
          refine LW.pureYB rfl rfl rfl rfl hb4 (RV.load1 Tk3' rfl (((H.blk 0 rfl).cells.off 0).off 1) rfl) ?_
          refine LW.pureYB rfl rfl rfl rfl hb4 (RV.move rfl) ?_
          refine LW.pureYB rfl rfl rfl rfl hb4 (RV.nei rfl rfl) ?_
          refine LW.pure rfl rfl (RV.pickTB rfl hb4 rfl) ?_
          refine LW.nil ?_
          exact go (!decide (x.drain.to_ = u)) _ rfl (by simp [hp4]) ⟨rfl, rfl, rfl, rfl, rfl, rfl, rfl, rfl, rfl, rfl, trivial⟩
      · refine CW.condF rfl (dec_f hp2) ?_
        refine CW.exit ?_
        have hjl : j = L.length := by omega
        have hrn : r = [] := by
          cases r with
          | nil => rfl
          | cons e r' => have := hr 0; rw [hjl] at this; simp at this
        subst hrn
        simp only [scan] at F
        cases F
        exact ⟨_, ResOK.none_, rfl, H⟩
end Go.D2

set_option linter.unusedVariables false
set_option linter.unusedSimpArgs false
namespace Go.Tb
open Go.RowKit
structure FitsD (n : Nat) (ds : List Deferred) (ρ : Env) (a : Act) : Prop where
  defers : a.defers = ds
  fits : Fits n ρ { a with defers := [] }
def liftD (n : Nat) (ds : List Deferred) (Q : Exit → Env → World → Prop) : Exit → Act → World → Prop := fun e a w => ∃ ρ, FitsD n ds ρ a ∧ Q e ρ w
def CWD (P : Program) (n : Nat) (ds : List Deferred) (c : Code) (Q : Exit → Env → World → Prop) (ρ : Env) (w : World) : Prop := ∀ a, FitsD n ds ρ a → c.wp P (liftD n ds Q) a w
def LWD (P : Program) (n : Nat) (ds : List Deferred) (ops : Array Oper) (Q : Exit → Env → World → Prop) (l : List Oper) (ρ : Env) (w : World) : Prop := ∀ a, FitsD n ds ρ a → wpList P ops (liftD n ds Q) l a w
section
variable {P : Program} {n : Nat} {ds : List Deferred} {ops : Array Oper} {Q : Exit → Env → World → Prop} {ρ : Env} {w : World}
theorem eval_defers (a : Act) (l : List Deferred) : ({ a with defers := l } : Act).eval = a.eval := by
  funext x; cases x <;> rfl
theorem OW.toD {o : Oper} {K : Value → World → Prop} (h : OW P n Q o ρ w K) {a : Act} (ha : FitsD n ds ρ a) : wpV P o a w K (fun c w' => Q (.panic c) ρ w') := by
  have := h _ ha.fits
  unfold wpV at this ⊢
  rw [eval_defers] at this
  exact this
theorem FitsD.upd {a : Act} (h : FitsD n ds ρ a) {d : Option Nat} (hd : okDst n d = true) (v : Value) : FitsD n ds (Tb.upd ρ d v) (a.put d v) := by
  have := h.fits.upd hd v
  refine ⟨?_, ?_⟩
  · cases d <;> exact h.defers
  · cases d <;> exact this
theorem LWD.go {o : Oper} {rest : List Oper} (hg : o.guard = none) (hd : okDst n o.dst = true) (h : OW P n Q o ρ w (fun v w' => LWD P n ds ops Q rest (upd ρ o.dst v) w')) : LWD P n ds ops Q (o :: rest) ρ w := fun a ha => by
  unfold wpList
  rw [if_pos (by simp [Region.wanted, hg])]
  exact .inl (wp_of_wpV (h.toD ha) (fun v w' hk => hk _ (ha.upd hd v)) (fun c w' hk => ⟨ρ, ha, hk⟩))
theorem LWD.pure {o : Oper} {rest : List Oper} {v : Value} (hg : o.guard = none) (hd : okDst n o.dst = true) (h : RV P n o ρ w v) (k : LWD P n ds ops Q rest (upd ρ o.dst v) w) : LWD P n ds ops Q (o :: rest) ρ w :=
  LWD.go hg hd (OW.value h k)
theorem LWD.nil (h : Q .normal ρ w) : LWD P n ds ops Q [] ρ w := fun _ ha => wpList_nil ⟨ρ, ha, h⟩
theorem CWD.region {id : Nat} {l : List Oper} (h : LWD P n ds l.toArray Q l ρ w) : CWD P n ds (.region id l.toArray false) Q ρ w := fun a ha => wp_region_lit (h a ha)
theorem CWD.seq {x y : Code} (h : CWD P n ds x (thenE (fun ρ w => CWD P n ds y Q ρ w) Q) ρ w) : CWD P n ds (.seq x y) Q ρ w := fun a ha => by
  refine wp_seq (wp_mono (h a ha) fun e a' w' hq => ?_)
  obtain ⟨ρ', hf, hq⟩ := hq
  cases e <;> first | exact hq a' hf | exact ⟨ρ', hf, hq⟩
theorem CWD.ret (h : Q .ret ρ w) : CWD P n ds .ret Q ρ w := fun _ ha => wp_ret ⟨ρ, ha, h⟩
variable {d : Option Tmp} {ty : TypeId} {pos : String} {after : Array Edge} {g : Option (Nat × Bool)} {K : Value → World → Prop}
theorem RV.neiface {t u q : Nat} {ms : Array (String × TypeId)} {x : Operand} {v : Value} (hT : P.underlying t = some (.interface ms)) (hx : ev ρ x = some (.iface q v)) : RV P n ⟨d, .binOp .neq t x (.const .nilIface) u, ty, pos, after, g⟩ ρ w (.bool true) := fun a ha => by
  have h : ∀ d : Nat, (Op.equalIn (d + 1) t (.iface q v) .nilIface).run P w = .ok false w := fun d => by simp [Op.equalIn, run_underlying hT]
  have hg : (eqGuard .neq t x (.const .nilIface) (.iface q v) .nilIface).run P w = .ok () w := by simp [go_sem]
  have hy : a.eval (.const .nilIface) = .nilIface := rfl
  simp only [execOp, ha.ev hx, hy, Sem.run_bind, hg, Result.andThen_ok]
  simp only [binOp]
  simp [Op.equal, Op.maxDepth, h 9999]
theorem RV.nenilI {t u : Nat} {ms : Array (String × TypeId)} {x : Operand} (hT : P.underlying t = some (.interface ms)) (hx : ev ρ x = some .nilIface) : RV P n ⟨d, .binOp .neq t x (.const .nilIface) u, ty, pos, after, g⟩ ρ w (.bool false) := fun a ha => by
  have h : ∀ d : Nat, (Op.equalIn (d + 1) t .nilIface .nilIface).run P w = .ok true w := fun d => by simp [Op.equalIn, run_underlying hT]
  have hg : (eqGuard .neq t x (.const .nilIface) .nilIface .nilIface).run P w = .ok () w := by simp [go_sem]
  have hy : a.eval (.const .nilIface) = .nilIface := rfl
  simp only [execOp, ha.ev hx, hy, Sem.run_bind, hg, Result.andThen_ok]
  simp only [binOp]
  simp [Op.equal, Op.maxDepth, h 9999]
theorem RV.assertOk {t q : Nat} {fs : TypeDesc} {x : Operand} {v : Value} (hT : P.underlying q = some fs) (hn : (match fs with | .interface _ => true | _ => false) = false) (hx : ev ρ x = some (.iface q v)) : RV P n ⟨d, .typeAssert x t q true, ty, pos, after, g⟩ ρ w (.tuple #[v, .bool true]) := fun a ha => by
  simp only [execOp, ha.ev hx, Instr.typeAssert, Sem.run_bind, run_underlying hT, Result.andThen_ok]
  cases fs <;> simp_all
end
end Go.Tb
namespace Go.Tb
theorem Fits.empty {n : Nat} {a : Act} (hd : a.defers = []) (hs : a.tmps.size = n) : Fits n [] a := ⟨hd, hs, fun t v h => by simp [Tb.look] at h⟩
theorem Fits.add {n k : Nat} {v : Value} {ρ : Env} {a : Act} (h : Fits n ρ a) (hv : a.tmps[k]? = some v) : Fits n ((k, v) :: ρ) a := ⟨h.defers, h.size, fun t u hl => by
  unfold Tb.look at hl
  split at hl
  · rename_i hb
    have : k = t := Nat.eq_of_beq_eq_true hb
    subst this
    simp at hl; subst hl; exact hv
  · exact h.at_ t u hl⟩
end Go.Tb
namespace Go.Tb
section
variable {P : Program} {n : Nat} {ops : Array Oper} {Q : Exit → Act → World → Prop} {a : Act} {w : World} {ρ : Env}
theorem wpList_rv {o : Oper} {rest : List Oper} {v : Value} (hf : Fits n ρ a) (hg : o.guard = none) (h : RV P n o ρ w v) (k : wpList P ops Q rest (a.put o.dst v) w) : wpList P ops Q (o :: rest) a w := by
  unfold wpList
  rw [if_pos (by simp [Region.wanted, hg])]
  refine .inl ?_
  unfold Oper.wp
  rw [h a hf]
  exact k
theorem wpList_defer {o : Oper} {rest : List Oper} {x : Operand} {fn : Fn} {fst cap : Array Value} (hg : o.guard = none) (hd : o.dst = none) (ho : o.op = .defer ⟨.value x, #[], #[]⟩) (hx : a.eval x = .func fn fst cap)
    (k : wpList P ops Q rest { a with defers := { target := .fn fn cap, args := fst ++ #[] } :: a.defers } w) : wpList P ops Q (o :: rest) a w := by
  unfold wpList
  rw [if_pos (by simp [Region.wanted, hg])]
  refine .inl ?_
  unfold Oper.wp
  have he : (execOp a.eval o).run P w = .ok (.defer { target := .fn fn cap, args := fst ++ #[] }) w := by
    simp only [execOp, ho, resolve, hx, Deferred.ofValue, Sem.run_bind, Sem.run_pure, Result.andThen_ok]
    simp
  rw [he, Oper.upon_defer, hd]
  exact k
end
end Go.Tb
namespace Go.Tb
section
variable {P : Program} {n : Nat} {ρ : Env} {w : World} {d : Option Tmp} {ty : TypeId} {pos : String} {after : Array Edge} {g : Option (Nat × Bool)}
end
end Go.Tb
namespace Go.Tb
section
variable {P : Program} {n : Nat} {ρ : Env} {w : World} {d : Option Tmp} {ty : TypeId} {pos : String} {after : Array Edge} {g : Option (Nat × Bool)}
end
end Go.Tb

set_option linter.unusedVariables false
set_option linter.unusedSimpArgs false
namespace Go.D2
open Go.Tb Go.Proofs Go.RowKit
theorem Tk30' : tyK Try.prog 30 = some (false, 1) := by kernel_rfl
theorem Tk93' : tyK Try.prog 93 = some (true, 1) := by kernel_rfl
theorem Tz93' : tyZ Try.prog 93 = some (.agg #[.slice none 0 0]) := by kernel_rfl
theorem Tz30' : tyZ Try.prog 30 = some (.slice none 0 0) := by kernel_rfl
theorem Tf93_0' : tyF Try.prog 93 0 = some 0 := by kernel_rfl
theorem Tu20' : Try.prog.underlying 20 = some (.interface #[]) := by kernel_rfl
set_option maxRecDepth 20000 in
set_option maxHeartbeats 1000000 in
theorem catch_ok {b0 : Nat} {A' : Option Addr} {c' : Nat} {R : List Ck} {wb w : World} {old : Value} {x : List Int} (H : Hp wb w ([.blk b0 30 [old], .own A' c' 3 1 (x.map encN)] ++ R)) :
    CallsD Try.prog 93 #[.pointer (some ⟨b0, 0, none⟩)] (.panicking [{ v := .iface 93 (.agg #[.slice A' x.length c']), recovered := false }]) w fun e u' w' =>
      e = .returned (.tuple #[]) ∧ u' = .panicking [{ v := .iface 93 (.agg #[.slice A' x.length c']), recovered := true }] ∧ Hp wb w' ([.blk b0 30 [.slice A' x.length c'], .own A' c' 3 1 (x.map encN)] ++ R) := by
  refine callsD_of_wpS Try.func93 rfl fun c₀ cs hu => ?_
  apply wpS_seq
  apply wpS_region
  simp [wpOpsS, go_sem, recoverD, hu, Try.ntmps93, Exit.thenS]
  refine wpS_of_wp (wp_mono ((?_ : CW Try.prog 17 _ (bodyE Try.prog 17 #[] fun e w' => e = .returned (.tuple #[]) ∧ Hp wb w' ([.blk b0 30 [.slice A' x.length c'], .own A' c' 3 1 (x.map encN)] ++ R)) [(0, .pointer (some ⟨b0, 0, none⟩)), (1, .iface 93 (.agg #[.slice A' x.length c']))] w) _ ?_) ?_)
  · refine CW.seq fun K1 hK1 => ?_
    refine CW.region (l := [_, _]) ?_
    refine LW.pure rfl rfl (RV.move rfl) ?_
    refine LW.pure rfl rfl (RV.neiface Tu20' rfl) ?_
    refine LW.nil (hK1 _ _ ?_)
    refine CW.condT (t := true) rfl rfl ?_
    refine CW.seq fun K2 hK2 => ?_
    refine CW.region (l := [_, _, _, _, _, _, _, _]) ?_
    refine LW.pure rfl rfl (RV.move rfl) ?_
    refine LW.pure rfl rfl (RV.assertOk Tu93' rfl rfl) ?_
    refine LW.pure rfl rfl (RV.move rfl) ?_
    refine LW.pure rfl rfl (RV.extract rfl rfl) ?_
    refine LW.pure rfl rfl (RV.extract rfl rfl) ?_
    refine LW.go rfl rfl (OW.alloc Tz93' fun b1 w1 N1 => ?_)
    replace H := H.new N1 N1.blk
    refine LW.go rfl rfl (OW.store Tk93' rfl rfl (H.blk 0 rfl) (off := 0) (vs := [.slice A' x.length c']) rfl rfl rfl rfl rfl fun w2 S2 => ?_)
    replace H : Hp wb w2 ([.blk b1 93 [.slice A' x.length c'], .blk b0 30 [old], .own A' c' 3 1 (x.map encN)] ++ R) := H.stored 0 rfl S2
    refine LW.pure rfl rfl (RV.assign rfl) ?_
    refine LW.nil (hK2 _ _ ?_)
    refine CW.seq fun K3 hK3 => ?_
    refine CW.seq fun K4 hK4 => ?_
    refine CW.region (l := [_, _]) ?_
    refine LW.pure rfl rfl (RV.move rfl) ?_
    refine LW.pure rfl rfl (RV.not rfl) ?_
    refine LW.nil (hK4 _ _ ?_)
    refine CW.condF (t := !true) rfl rfl ?_
    refine CW.skip (hK3 _ _ ?_)
    refine CW.region (l := [_, _, _]) ?_
    refine LW.pure rfl rfl (RV.fieldAddr Tf93_0' rfl) ?_
    refine LW.pure rfl rfl (RV.load1 Tk30' rfl ((H.blk 0 rfl).cells.off 0) rfl) ?_
    refine LW.go rfl rfl (OW.store Tk30' rfl rfl (H.blk 1 rfl) (off := 0) (vs := [.slice A' x.length c']) rfl rfl rfl rfl rfl fun w3 S3 => ?_)
    replace H : Hp wb w3 ([.blk b1 93 [.slice A' x.length c'], .blk b0 30 [.slice A' x.length c'], .own A' c' 3 1 (x.map encN)] ++ R) := H.stored 1 rfl S3
    refine LW.nil ?_
    exact ⟨_, ResOK.none_, rfl, H.pickR (C := [.blk b1 93 [.slice A' x.length c'], .blk b0 30 [.slice A' x.length c'], .own A' c' 3 1 (x.map encN)]) (C' := [.blk b0 30 [.slice A' x.length c'], .own A' c' 3 1 (x.map encN)]) [1, 2] (by decide) rfl⟩
  · refine Fits.add (Fits.add (Fits.empty ?_ ?_) ?_) ?_ <;> rfl
  · rintro e a w' ⟨ρ, hf, hq⟩
    cases e with
    | normal =>
      obtain ⟨v, h1, h3, h2⟩ := hq
      exact ⟨hf.defers, _, rfl, v, h1 Try.f93 a rfl hf, h3, rfl, h2⟩
    | ret =>
      obtain ⟨v, h1, h3, h2⟩ := hq
      exact ⟨hf.defers, _, rfl, v, h1 Try.f93 a rfl hf, h3, rfl, h2⟩
    | panic ch => obtain ⟨h, _⟩ := hq; cases h
    | outgrown => obtain ⟨h, _⟩ := hq; cases h
    | exit id => exact hq.elim
    | goto l => exact hq.elim
set_option maxRecDepth 20000 in
set_option maxHeartbeats 1000000 in
theorem catch_idle {p : Addr} (w : World) : CallsD Try.prog 93 #[.pointer (some p)] .returning w fun e u' w' => e = .returned (.tuple #[]) ∧ u' = .returning ∧ w' = w := by
  refine callsD_of_wpS Try.func93 rfl fun c₀ cs hu => ?_
  apply wpS_seq
  apply wpS_region
  simp [wpOpsS, go_sem, recoverD, hu, Try.ntmps93, Exit.thenS]
  refine wpS_of_wp (wp_mono ((?_ : CW Try.prog 17 _ (bodyE Try.prog 17 #[] fun e w' => e = .returned (.tuple #[]) ∧ w' = w) [(0, .pointer (some p)), (1, .nilIface)] w) _ ?_) ?_)
  · refine CW.seq fun K1 hK1 => ?_
    refine CW.region (l := [_, _]) ?_
    refine LW.pure rfl rfl (RV.move rfl) ?_
    refine LW.pure rfl rfl (RV.nenilI Tu20' rfl) ?_
    refine LW.nil (hK1 _ _ ?_)
    refine CW.condF (t := false) rfl rfl ?_
    refine CW.skip ?_
    exact ⟨_, ResOK.none_, rfl, rfl⟩
  · refine Fits.add (Fits.add (Fits.empty ?_ ?_) ?_) ?_ <;> rfl
  · rintro e a w' ⟨ρ, hf, hq⟩
    cases e with
    | normal =>
      obtain ⟨v, h1, h3, h2⟩ := hq
      refine ⟨hf.defers, .returning, ?_, v, h1 Try.f93 a rfl hf, h3, rfl, h2⟩
      cases c₀; simp_all
    | ret =>
      obtain ⟨v, h1, h3, h2⟩ := hq
      refine ⟨hf.defers, .returning, ?_, v, h1 Try.f93 a rfl hf, h3, rfl, h2⟩
      cases c₀; simp_all
    | panic ch => obtain ⟨h, _⟩ := hq; cases h
    | outgrown => obtain ⟨h, _⟩ := hq; cases h
    | exit id => exact hq.elim
    | goto l => exact hq.elim
/-- The search as a text: the drains of a way; none if there is none. -/
def drain_search (a0 : List Left) (a1 a2 : Int) : Option (List Int) :=
  gd (a1 ≠ a2) <|
  match dfs (a0.map toEd) a2 FU a1 [] [] with
  | none => none
  | some (.inl _) => some []
  | some (.inr x) => gd (x ≠ []) (some x)
set_option maxRecDepth 20000 in
set_option maxHeartbeats 1000000 in
theorem drain_search_ok {a0 : List Left} {a1 a2 : Int} {A_a0 : Option Addr} {c_a0 : Nat} {w : World} {res : List Int} (h_a0 : Sl w A_a0 c_a0 4 (a0.map encLeft)) (F : drain_search a0 a1 a2 = some res) :
    Calls Try.prog 71 #[.slice A_a0 a0.length c_a0, .int .i64 a1, .int .i64 a2] w (fun e w' => ∃ (A0 : Option Addr) (c0 : Nat), e = .returned (.slice A0 res.length c0) ∧ (A0 = none ↔ res = []) ∧ Hp w w' [.own A0 c0 3 1 (List.map encN res)]) := by
  unfold drain_search at F
  obtain ⟨hne, F⟩ := gd_some F
  generalize FU = KK at F
  refine calls_of_wp_defers Try.func71 rfl ?_
  refine wp_seq (wp_mono ((?_ : CW Try.prog 13 _ (thenE (fun ρ w1 => ∃ b, ρ = [(6, .pointer (some ⟨b, 0, none⟩)), (0, .slice A_a0 a0.length c_a0), (1, .int .i64 a1), (2, .int .i64 a2)] ∧ Hp w w1 [.blk b 30 [.slice none 0 0]]) (fun _ _ _ => False)) [(0, .slice A_a0 a0.length c_a0), (1, .int .i64 a1), (2, .int .i64 a2)] w) _ ?_) ?_)
  · refine CW.region (l := [_]) ?_
    refine LW.go rfl rfl (OW.alloc Tz30' fun b1 w1 N1 => ?_)
    refine LW.nil ?_
    exact ⟨b1, rfl, (Hp.start w).new N1 N1.blk⟩
  · refine Fits.add (Fits.add (Fits.add (Fits.empty ?_ ?_) ?_) ?_) ?_ <;> rfl
  rintro e a w1 ⟨ρ, hf, hq⟩
  cases e with
  | ret => exact hq.elim
  | panic ch => exact hq.elim
  | outgrown => exact hq.elim
  | exit id => exact hq.elim
  | goto l => exact hq.elim
  | normal =>
  obtain ⟨b1, rfl, H⟩ := hq
  have R0 := H.ext
  refine wp_seq (wp_region_lit (l := [_, _]) ?_)
  refine wpList_rv hf rfl (RV.makeFunc (fs := []) (cs := [.pointer (some ⟨b1, 0, none⟩)]) rfl rfl) ?_
  have hf2 := hf.upd (d := some 7) rfl (.func (.func 93) #[] #[.pointer (some ⟨b1, 0, none⟩)])
  refine wpList_defer (x := .tmp 7) (fn := .func 93) (fst := #[]) (cap := #[.pointer (some ⟨b1, 0, none⟩)]) rfl rfl rfl (hf2.ev (x := .tmp 7) rfl) ?_
  generalize hact : Act.put _ _ _ = ac2 at hf2 ⊢
  have hfd : FitsD 13 [{ target := .fn (.func 93) #[.pointer (some ⟨b1, 0, none⟩)], args := #[] ++ #[] }] _ { ac2 with defers := { target := .fn (.func 93) #[.pointer (some ⟨b1, 0, none⟩)], args := #[] ++ #[] } :: ac2.defers } :=
    ⟨by rw [hf2.defers], ⟨rfl, hf2.size, hf2.at_⟩⟩
  refine wpList_nil ?_
  show Code.wp _ _ _ _ _
  refine wp_mono ((?_ : CWD Try.prog 13 _ _ (fun e ρ w2 => match e with
    | .ret => Tb.look ρ 6 = some (.pointer (some ⟨b1, 0, none⟩)) ∧ res = [] ∧ Hp w w2 [.blk b1 30 [.slice none 0 0]]
    | .panic ch => Tb.look ρ 6 = some (.pointer (some ⟨b1, 0, none⟩)) ∧ ∃ (A' : Option Addr) (c' : Nat), res ≠ [] ∧ ch = [{ v := .iface 93 (.agg #[.slice A' res.length c']), recovered := false }] ∧ Hp w w2 [.blk b1 30 [.slice none 0 0], .own A' c' 3 1 (res.map encN)]
    | _ => False) _ w1) _ hfd) ?_
  · refine CWD.seq ?_
    refine CWD.region (l := [_, _, _, _, _]) ?_
    refine LWD.pure rfl rfl (RV.move rfl) ?_
    refine LWD.pure rfl rfl (RV.move rfl) ?_
    refine LWD.pure rfl rfl (RV.move rfl) ?_
    refine LWD.go rfl rfl (OW.makeMap fun b3 w3 N3 M3 => ?_)
    have H3 : Hp w w3 ([.mp b3 (encMap ekI ekBl ([] : Seen))] ++ [.blk b1 30 [.slice none 0 0]]) := H.newM N3 M3
    have H4 : Hp w w3 (.own none 0 3 1 (([] : List Int).map encN) :: ([.mp b3 (encMap ekI ekBl ([] : Seen))] ++ [.blk b1 30 [.slice none 0 0]])) := H3.nilOwn 3 1
    have H5 : Hp w w3 ([.mp b3 (encMap ekI ekBl ([] : Seen)), .own none 0 3 1 (([] : List Int).map encN)] ++ [.blk b1 30 [.slice none 0 0]]) :=
      H4.pick (L' := [.mp b3 (encMap ekI ekBl ([] : Seen)), .own none 0 3 1 (([] : List Int).map encN), .blk b1 30 [.slice none 0 0]]) [1, 0, 2] (by decide) rfl
    cases hd : dfs (a0.map toEd) a2 KK a1 [] [] with
    | none => rw [hd] at F; cases F
    | some q =>
    rw [hd] at F
    refine LWD.go rfl rfl (OW.callP Tc94' rfl (look_ok (u := a1) (t := a2) (s := []) (dr := []) (b := b3) (A := none) (c := 0) (R := [.blk b1 30 [.slice none 0 0]]) (w := w3) (res := q) h_a0 KK hd H5) ?_)
    intro e w5 hq5
    cases q with
    | inr x =>
      obtain ⟨A', c', rfl, H6⟩ := hq5
      obtain ⟨hx, F⟩ := gd_some F
      cases F
      refine .inr ⟨_, rfl, rfl, A', c', hx, rfl, ?_⟩
      exact H6.pick (L' := [.blk b1 30 [.slice none 0 0], .own A' c' 3 1 (res.map encN)]) [1, 0] (by decide) rfl
    | inl s' =>
      obtain ⟨rfl, H6⟩ := hq5
      cases F
      refine .inl ⟨_, rfl, ?_⟩
      refine LWD.nil ?_
      refine CWD.seq ?_
      refine CWD.region (l := [_]) ?_
      have H7 : Hp w w5 [.blk b1 30 [.slice none 0 0]] := H6.pick (L' := [.blk b1 30 [.slice none 0 0]]) [2] (by decide) rfl
      refine LWD.go rfl rfl (OW.store Tk30' rfl rfl (H7.blk 0 rfl) (off := 0) (vs := [.slice none 0 0]) rfl rfl rfl rfl rfl fun w6 S6 => ?_)
      refine LWD.nil ?_
      refine CWD.ret ?_
      exact ⟨rfl, rfl, H7.stored 0 rfl S6⟩
  rintro e a3 w2 ⟨ρ, hf3, hq⟩
  have inv : ∀ (w' : World), (invoke (.fn (.func 93) #[.pointer (some ⟨b1, 0, none⟩)]) (#[] ++ #[])).run Try.prog w' = .ok (.enter 93 #[.pointer (some ⟨b1, 0, none⟩)]) w' := fun w' => by
    simp only [invoke]
    have := run_callFunc (P := Try.prog) (f := 93) (by kernel_rfl) (#[] ++ #[] ++ #[.pointer (some ⟨b1, 0, none⟩)]) (w := w')
    exact this
  have fin_ : ∀ {ρ' : Env} {w' : World} {A' : Option Addr} {c' m : Nat}, Tb.look ρ' 6 = some (.pointer (some ⟨b1, 0, none⟩)) → FitsD 13 [{ target := .fn (.func 93) #[.pointer (some ⟨b1, 0, none⟩)], args := #[] ++ #[] }] ρ' a3 → Blk w' b1 30 [.slice A' m c'] →
      (results Try.f71 a3.tmps).run Try.prog w' = .ok (.slice A' m c') w' := fun {ρ'} {w'} {A'} {c'} {m} h6 hf B =>
    ResOK.cell1 (n := 13) ⟨_, h6, run_loadVar_cell Tk30' (B.cells 0 _ rfl)⟩ Try.f71 { a3 with defers := [] } rfl hf.fits
  cases e with
  | normal => exact hq.elim
  | outgrown => exact hq.elim
  | exit id => exact hq.elim
  | goto l => exact hq.elim
  | ret =>
    obtain ⟨h6, rfl, H8⟩ := hq
    show Leaves _ _ _ _ a3.defers _ _
    rw [hf3.defers]
    refine leaves_cons (by simp) (inv w2) ?_
    refine (catch_idle w2).mono ?_
    rintro e u' w'' ⟨rfl, rfl, rfl⟩
    refine ⟨_, fin_ h6 hf3 (H8.blk 0 rfl), none, 0, rfl, by simp, ?_⟩
    exact (Hp.of_ext H8.ext).nilOwn 3 1
  | panic ch =>
    obtain ⟨h6, A', c', hx, rfl, H8⟩ := hq
    show Leaves _ _ _ _ a3.defers _ _
    rw [hf3.defers]
    refine leaves_cons (by simp) (inv w2) ?_
    refine (catch_ok (R := []) (wb := w) H8).mono ?_
    rintro e u' w'' ⟨rfl, rfl, H9⟩
    refine ⟨_, fin_ h6 hf3 (H9.blk 0 rfl), A', c', rfl, ?_, H9.pick (L' := [.own A' c' 3 1 (res.map encN)]) [1] (by decide) rfl⟩
    have := (H9.own 1 rfl).ne (by simpa using hx)
    exact ⟨fun h => absurd h this, fun h => absurd h hx⟩
end Go.D2

set_option linter.unusedVariables false
namespace Go.D2
open Go.Tb
structure Net where
  nodes : Int
  from_ : Int
  to_ : Int
  drains : List Drain
def encDrain (x : Drain) : List Value := [.int .i64 x.from_, .int .i64 x.to_, .int .i64 x.width]
def law02_Long (a0 : Net) : Option Bool :=
  some (decide ((100 : Int) < ((a0.drains.length : Int))))
def law02_example : Option Net :=
  some ((⟨3, 0, 2, ([(⟨0, 1, 3⟩ : Drain), (⟨0, 1, 4⟩ : Drain), (⟨1, 2, 5⟩ : Drain)] : List Drain)⟩ : Net))
def drain_from (a0 : Int) (a1 : Int) (a2 : Int) : Option Bool :=
  if a1 ≤ a0 then
    some (decide (a0 ≤ a2))
  else
    some false
def drain_isNode (a0 : Net) (a1 : Int) : Option Bool :=
  gd (InR (a0.nodes - 1)) <|
  bnd (drain_from a1 ((0 : Int)) (a0.nodes - 1)) fun r1 =>
  some r1
def drain_Validate_k1 : Option Int :=
  some ((0 : Int))
def drain_Validate_k2 (t37_1 : Int) (rec1 : Int → Option Int) (t65_1 : Bool) : Option Int :=
  if t65_1 = true then
    some ((1 : Int))
  else
    gd (InR (t37_1 + 1)) <|
    rec1 ((t37_1 + 1))
def drain_Validate_B1 (a0 : Net) (rec1 : Int → Option Int) (t37_1 : Int) : Option Int :=
  if t37_1 < ((a0.drains.length : Int)) then
    ix a0.drains t37_1 fun x1 =>
    bnd (drain_isNode a0 x1.from_) fun r1 =>
    if r1 = true then
      bnd (drain_isNode a0 x1.to_) fun r2 =>
      if r2 = true then
        if x1.from_ = x1.to_ then
          drain_Validate_k2 t37_1 rec1 true
        else
          bnd (drain_from x1.width ((0 : Int)) ((20 : Int))) fun r3 =>
          drain_Validate_k2 t37_1 rec1 ((!r3))
      else
        drain_Validate_k2 t37_1 rec1 true
    else
      drain_Validate_k2 t37_1 rec1 true
  else
    drain_Validate_k1
def drain_Validate_L1 (a0 : Net) : Nat → Int → Option Int
  | 0, _ => none
  | n_ + 1, t37_1 => drain_Validate_B1 a0 (drain_Validate_L1 a0 n_) t37_1
theorem drain_Validate_L1_s {a0 : Net} {m_ : Nat} {t37_1 : Int} {res : Int} (h : drain_Validate_L1 a0 m_ t37_1 = some res) : ∃ k, m_ = k + 1 ∧ drain_Validate_B1 a0 (drain_Validate_L1 a0 k) t37_1 = some res := by
  cases m_ with
  | zero => cases h
  | succ k => exact ⟨k, rfl, h⟩
def drain_Validate_k3 (a0 : Net) (t29_1 : Bool) : Option Int :=
  if t29_1 = true then
    some ((1 : Int))
  else
    if (16 : Int) < ((a0.drains.length : Int)) then
      some ((3 : Int))
    else
      drain_Validate_L1 a0 FU (((0 : Int)))
def drain_Validate (a0 : Net) : Option Int :=
  bnd (drain_from a0.nodes ((2 : Int)) ((8 : Int))) fun r4 =>
  if r4 = true then
    bnd (drain_isNode a0 a0.from_) fun r5 =>
    if r5 = true then
      bnd (drain_isNode a0 a0.to_) fun r6 =>
      if r6 = true then
        drain_Validate_k3 a0 ((decide (a0.from_ = a0.to_)))
      else
        drain_Validate_k3 a0 true
    else
      drain_Validate_k3 a0 true
  else
    drain_Validate_k3 a0 true
def drain_run_k1 (t70_1 : Int) (rec1 : Int → Int → (List Left) → Option ((List Left))) (r1 : Int × Int) (l1 : List Left) : Option ((List Left)) :=
  gd (InR (t70_1 + 1)) <|
  rec1 r1.1 ((t70_1 + 1)) l1
def drain_run_B1 (rec2 : (List Left) → Option ((List Left))) (r2 : List Int) (t8_1 : Int) (rec1 : Int → Int → (List Left) → Option ((List Left))) (t7_1 : Int) (t70_1 : Int) (l2 : List Left) : Option ((List Left)) :=
  if t70_1 < ((r2.length : Int)) then
    ix r2 t70_1 fun x1 =>
    ix l2 x1 fun x2 =>
    bnd (drain_left_room x2 t7_1) fun r1 =>
    ix l2 x1 fun x3 =>
    if x3.drain.from_ = t7_1 then
      ix l2 x1 fun x4 =>
      gd (InR (x4.runs + t8_1)) <|
      ix l2 x1 fun x5 =>
      drain_run_k1 t70_1 rec1 r1 (((l2.set (Int.toNat x1) ((⟨x5.drain, x4.runs + t8_1⟩ : Left)))))
    else
      ix l2 x1 fun x6 =>
      gd (InR (x6.runs - t8_1)) <|
      ix l2 x1 fun x7 =>
      drain_run_k1 t70_1 rec1 r1 (((l2.set (Int.toNat x1) ((⟨x7.drain, x6.runs - t8_1⟩ : Left)))))
  else
    rec2 l2
def drain_run_L1 (rec2 : (List Left) → Option ((List Left))) (r2 : List Int) (t8_1 : Int) : Nat → Int → Int → (List Left) → Option ((List Left))
  | 0, _, _, _ => none
  | n_ + 1, t7_1, t70_1, l2 => drain_run_B1 rec2 r2 t8_1 (drain_run_L1 rec2 r2 t8_1 n_) t7_1 t70_1 l2
theorem drain_run_L1_s {rec2 : (List Left) → Option ((List Left))} {r2 : List Int} {t8_1 : Int} {m_ : Nat} {t7_1 : Int} {t70_1 : Int} {l2 : List Left} {res : (List Left)} (h : drain_run_L1 rec2 r2 t8_1 m_ t7_1 t70_1 l2 = some res) : ∃ k, m_ = k + 1 ∧ drain_run_B1 rec2 r2 t8_1 (drain_run_L1 rec2 r2 t8_1 k) t7_1 t70_1 l2 = some res := by
  cases m_ with
  | zero => cases h
  | succ k => exact ⟨k, rfl, h⟩
def drain_run_k2 (a0 : Net) (l3 : List Left) (rec2 : (List Left) → Option ((List Left))) (r2 : List Int) (t8_1 : Int) : Option ((List Left)) :=
  drain_run_L1 rec2 r2 t8_1 FU a0.from_ (((0 : Int))) l3
def drain_run_k3 (t43_1 : Int) (rec3 : Int → Int → Int → Option ((List Left))) (r3 : Int × Int) (t8_2 : Int) : Option ((List Left)) :=
  gd (InR (t43_1 + 1)) <|
  rec3 r3.1 t8_2 ((t43_1 + 1))
def drain_run_k4 (t8_3 : Int) (t43_1 : Int) (rec3 : Int → Int → Int → Option ((List Left))) (r3 : Int × Int) (t62_1 : Bool) : Option ((List Left)) :=
  if t62_1 = true then
    drain_run_k3 t43_1 rec3 r3 r3.2
  else
    drain_run_k3 t43_1 rec3 r3 t8_3
def drain_run_B2 (a0 : Net) (l3 : List Left) (rec2 : (List Left) → Option ((List Left))) (r2 : List Int) (rec3 : Int → Int → Int → Option ((List Left))) (t7_2 : Int) (t8_3 : Int) (t43_1 : Int) : Option ((List Left)) :=
  if t43_1 < ((r2.length : Int)) then
    ix r2 t43_1 fun x8 =>
    ix l3 x8 fun x9 =>
    bnd (drain_left_room x9 t7_2) fun r3 =>
    if t8_3 < 0 then
      drain_run_k4 t8_3 t43_1 rec3 r3 true
    else
      drain_run_k4 t8_3 t43_1 rec3 r3 ((decide (r3.2 < t8_3)))
  else
    drain_run_k2 a0 l3 rec2 r2 t8_3
def drain_run_L2 (a0 : Net) (l3 : List Left) (rec2 : (List Left) → Option ((List Left))) (r2 : List Int) : Nat → Int → Int → Int → Option ((List Left))
  | 0, _, _, _ => none
  | n_ + 1, t7_2, t8_3, t43_1 => drain_run_B2 a0 l3 rec2 r2 (drain_run_L2 a0 l3 rec2 r2 n_) t7_2 t8_3 t43_1
theorem drain_run_L2_s {a0 : Net} {l3 : List Left} {rec2 : (List Left) → Option ((List Left))} {r2 : List Int} {m_ : Nat} {t7_2 : Int} {t8_3 : Int} {t43_1 : Int} {res : (List Left)} (h : drain_run_L2 a0 l3 rec2 r2 m_ t7_2 t8_3 t43_1 = some res) : ∃ k, m_ = k + 1 ∧ drain_run_B2 a0 l3 rec2 r2 (drain_run_L2 a0 l3 rec2 r2 k) t7_2 t8_3 t43_1 = some res := by
  cases m_ with
  | zero => cases h
  | succ k => exact ⟨k, rfl, h⟩
def drain_run_B3 (a0 : Net) (rec2 : (List Left) → Option ((List Left))) (l3 : List Left) : Option ((List Left)) :=
  bnd (drain_search l3 a0.from_ a0.to_) fun r2 =>
  if r2 = [] then
    some l3
  else
    drain_run_L2 a0 l3 rec2 r2 FU a0.from_ (((-1 : Int))) (((0 : Int)))
def drain_run_L3 (a0 : Net) : Nat → (List Left) → Option ((List Left))
  | 0, _ => none
  | n_ + 1, l3 => drain_run_B3 a0 (drain_run_L3 a0 n_) l3
theorem drain_run_L3_s {a0 : Net} {m_ : Nat} {l3 : List Left} {res : (List Left)} (h : drain_run_L3 a0 m_ l3 = some res) : ∃ k, m_ = k + 1 ∧ drain_run_B3 a0 (drain_run_L3 a0 k) l3 = some res := by
  cases m_ with
  | zero => cases h
  | succ k => exact ⟨k, rfl, h⟩
def drain_run_k5 (a0 : Net) (l4 : List Left) : Option ((List Left)) :=
  drain_run_L3 a0 FU l4
def drain_run_B4 (a0 : Net) (rec4 : Int → (List Left) → Option ((List Left))) (t20_1 : Int) (l5 : List Left) : Option ((List Left)) :=
  if t20_1 < ((a0.drains.length : Int)) then
    ix a0.drains t20_1 fun x10 =>
    gd (l5.length + (([(⟨x10, 0⟩ : Left)] : List Left)).length ≤ 1000000) <|
    gd (InR (t20_1 + 1)) <|
    rec4 ((t20_1 + 1)) (((l5 ++ ([(⟨x10, 0⟩ : Left)] : List Left))))
  else
    drain_run_k5 a0 l5
def drain_run_L4 (a0 : Net) : Nat → Int → (List Left) → Option ((List Left))
  | 0, _, _ => none
  | n_ + 1, t20_1, l5 => drain_run_B4 a0 (drain_run_L4 a0 n_) t20_1 l5
theorem drain_run_L4_s {a0 : Net} {m_ : Nat} {t20_1 : Int} {l5 : List Left} {res : (List Left)} (h : drain_run_L4 a0 m_ t20_1 l5 = some res) : ∃ k, m_ = k + 1 ∧ drain_run_B4 a0 (drain_run_L4 a0 k) t20_1 l5 = some res := by
  cases m_ with
  | zero => cases h
  | succ k => exact ⟨k, rfl, h⟩
def drain_run (a0 : Net) : Option ((List Left)) :=
  drain_run_L4 a0 FU (((0 : Int))) ((([] : List Left)))
end Go.D2

namespace Go.Open2
open Go.Tb Go.Proofs Go.ChangeShapes Go.WideShapes Go.ChangeAt Go.RowKit Go.Joins Go.D2
theorem own_ : ownKnob Try.prog.godebug = none := by kernel_rfl
theorem laidOut_ : laidOutB Try.prog = true := by kernel_rfl
theorem cells24_ : Try.prog.cellsOf 24 = 4 := by kernel_rfl
theorem cells52_ : Try.prog.cellsOf 52 = 3 := by kernel_rfl
section
variable {H : Type} {enc : TypeId × Value → H} {W : World} {sp : Nat → Bool} {held : Bool} {r : Reach} {b0 base : Nat} {v : Value} {d : DataW H} {p : List MemPlace}
theorem trod_lt_ {t : TypeId} (h : DataW.Trod enc Try.prog W base sp held t v d p) : ∀ x ∈ p, x.block < W.heap.size := by obtain ⟨m, hm⟩ := h; exact DataW.trod_lt m _ _ _ hm
theorem open_drains {fuel : Nat} {c1 : Value} {y : DataW H × List MemPlace} (h : DataW.trod enc Try.prog W base sp held fuel 22 [c1] = some y) : ∃ (l : List Drain) (A : Option Addr) (c : Nat), c1 = .slice A l.length c ∧ Sl W A c 3 (l.map encDrain) := by
  rcases open_rows Try.underlying22 Try.underlying52 (by kernel_rfl) cells52_ h with hcs | ⟨a, len, cap, hcs, hl, hm, hi⟩
  · simp at hcs; subst hcs
    exact ⟨[], none, 0, rfl, Sl.nil (by omega)⟩
  · simp at hcs; subst hcs
    obtain ⟨l, hlen, hl2⟩ := ex_list (Q := fun i (x : Drain) => ∀ (j : Nat) (u : Value), (encDrain x)[j]? = some u → W.cell? (a.add (i * 3 + j)) = some u) len (fun i hilt => by
      obtain ⟨v0, y0, n0, h0, t0⟩ := hi i hilt 0 _ rfl
      obtain ⟨v1, y1, n1, h1, t1⟩ := hi i hilt 1 _ rfl
      obtain ⟨v2, y2, n2, h2, t2⟩ := hi i hilt 2 _ rfl
      obtain ⟨z0, e0, _, _⟩ := DataW.trod_int Try.underlying3 t0
      obtain ⟨z1, e1, _, _⟩ := DataW.trod_int Try.underlying3 t1
      obtain ⟨z2, e2, _, _⟩ := DataW.trod_int Try.underlying3 t2
      simp at e0 e1 e2
      subst e0 e1 e2
      refine ⟨⟨z0, z1, z2⟩, fun j u hu => ?_⟩
      match j, hu with
      | 0, hu => cases hu; exact h0
      | 1, hu => cases hu; exact h1
      | 2, hu => cases hu; exact h2)
    subst hlen
    exact ⟨l, some a, cap, rfl, Sl.mk_ hl hm (fun _ => rfl) rfl hl2⟩
set_option maxRecDepth 100000 in
theorem open_net (hv : Value.okWide Try.prog W r b0 24 v) (h : DataW.Trod enc Try.prog W base sp held 24 v d p) : ∃ (n : Net) (A : Option Addr) (cc : Nat), v = .agg #[.int .i64 n.nodes, .int .i64 n.from_, .int .i64 n.to_, .slice A n.drains.length cc] ∧ Sl W A cc 3 (n.drains.map encDrain) := by
  obtain ⟨c0, c1, c2, c3, y0, y1, y2, y3, m, rfl, _, _, hy0, hy1, hy2, hy3⟩ := open_agg4 Try.underlying24 (by kernel_rfl) cells24_ hv h
  obtain ⟨a, e0, _, _⟩ := DataW.trod_int Try.underlying3 hy0
  obtain ⟨b, e1, _, _⟩ := DataW.trod_int Try.underlying3 hy1
  obtain ⟨c, e2, _, _⟩ := DataW.trod_int Try.underlying3 hy2
  simp at e0 e1 e2; subst e0 e1 e2
  obtain ⟨l, A, c', rfl, hs⟩ := open_drains hy3
  exact ⟨⟨a, b, c, l⟩, A, c', rfl, hs⟩
end
end Go.Open2

set_option linter.unusedVariables false
namespace Go.D2
open Go.Tb
def drain_flowOf_k1 (l1 : List Int) : Option ((List Int)) :=
  some l1
def drain_flowOf_B1 (a0 : List Left) (rec1 : Int → (List Int) → Option ((List Int))) (t8_1 : Int) (l2 : List Int) : Option ((List Int)) :=
  if t8_1 < ((a0.length : Int)) then
    ix a0 t8_1 fun x1 =>
    gd (l2.length + (([x1.runs] : List Int)).length ≤ 1000000) <|
    gd (InR (t8_1 + 1)) <|
    rec1 ((t8_1 + 1)) (((l2 ++ ([x1.runs] : List Int))))
  else
    drain_flowOf_k1 l2
def drain_flowOf_L1 (a0 : List Left) : Nat → Int → (List Int) → Option ((List Int))
  | 0, _, _ => none
  | n_ + 1, t8_1, l2 => drain_flowOf_B1 a0 (drain_flowOf_L1 a0 n_) t8_1 l2
theorem drain_flowOf_L1_s {a0 : List Left} {m_ : Nat} {t8_1 : Int} {l2 : List Int} {res : (List Int)} (h : drain_flowOf_L1 a0 m_ t8_1 l2 = some res) : ∃ k, m_ = k + 1 ∧ drain_flowOf_B1 a0 (drain_flowOf_L1 a0 k) t8_1 l2 = some res := by
  cases m_ with
  | zero => cases h
  | succ k => exact ⟨k, rfl, h⟩
def drain_flowOf (a0 : List Left) : Option ((List Int)) :=
  drain_flowOf_L1 a0 FU (((0 : Int))) ((([] : List Int)))
def drain_value_k1 (t7_1 : Int) : Option Int :=
  some t7_1
def drain_value_k2 (t13_1 : Int) (rec1 : Int → Int → Option Int) (t7_2 : Int) : Option Int :=
  gd (InR (t13_1 + 1)) <|
  rec1 t7_2 ((t13_1 + 1))
def drain_value_k3 (a1 : List Int) (a2 : Int) (t13_1 : Int) (rec1 : Int → Int → Option Int) (x1 : Drain) (t7_3 : Int) : Option Int :=
  if x1.to_ = a2 then
    ix a1 t13_1 fun x2 =>
    gd (InR (t7_3 - x2)) <|
    drain_value_k2 t13_1 rec1 ((t7_3 - x2))
  else
    drain_value_k2 t13_1 rec1 t7_3
def drain_value_B1 (a0 : Net) (a1 : List Int) (a2 : Int) (rec1 : Int → Int → Option Int) (t7_4 : Int) (t13_1 : Int) : Option Int :=
  if t13_1 < ((a0.drains.length : Int)) then
    ix a0.drains t13_1 fun x1 =>
    if x1.from_ = a2 then
      ix a1 t13_1 fun x3 =>
      gd (InR (t7_4 + x3)) <|
      drain_value_k3 a1 a2 t13_1 rec1 x1 ((t7_4 + x3))
    else
      drain_value_k3 a1 a2 t13_1 rec1 x1 t7_4
  else
    drain_value_k1 t7_4
def drain_value_L1 (a0 : Net) (a1 : List Int) (a2 : Int) : Nat → Int → Int → Option Int
  | 0, _, _ => none
  | n_ + 1, t7_4, t13_1 => drain_value_B1 a0 a1 a2 (drain_value_L1 a0 a1 a2 n_) t7_4 t13_1
theorem drain_value_L1_s {a0 : Net} {a1 : List Int} {a2 : Int} {m_ : Nat} {t7_4 : Int} {t13_1 : Int} {res : Int} (h : drain_value_L1 a0 a1 a2 m_ t7_4 t13_1 = some res) : ∃ k, m_ = k + 1 ∧ drain_value_B1 a0 a1 a2 (drain_value_L1 a0 a1 a2 k) t7_4 t13_1 = some res := by
  cases m_ with
  | zero => cases h
  | succ k => exact ⟨k, rfl, h⟩
def drain_value (a0 : Net) (a1 : List Int) (a2 : Int) : Option Int :=
  drain_value_L1 a0 a1 a2 FU (((0 : Int))) (((0 : Int)))
def drain_most (a0 : Net) : Option Int :=
  bnd (drain_run a0) fun r1 =>
  bnd (drain_flowOf r1) fun r2 =>
  bnd (drain_value a0 r2 a0.from_) fun r3 =>
  some r3
def drain_Most (a0 : Net) : Option (Int × Int) :=
  bnd (drain_Validate a0) fun r1 =>
  if r1 = 0 then
    bnd (drain_most a0) fun r2 =>
    some (r2, (0 : Int))
  else
    some ((0 : Int), r1)
def slices_Index_int_k1 : Option Int :=
  some ((-1 : Int))
def slices_Index_int_B1 (a0 : List Int) (a1 : Int) (rec1 : Int → Option Int) (t8_1 : Int) : Option Int :=
  if t8_1 < ((a0.length : Int)) then
    ix a0 t8_1 fun x1 =>
    if a1 = x1 then
      some t8_1
    else
      gd (InR (t8_1 + 1)) <|
      rec1 ((t8_1 + 1))
  else
    slices_Index_int_k1
def slices_Index_int_L1 (a0 : List Int) (a1 : Int) : Nat → Int → Option Int
  | 0, _ => none
  | n_ + 1, t8_1 => slices_Index_int_B1 a0 a1 (slices_Index_int_L1 a0 a1 n_) t8_1
theorem slices_Index_int_L1_s {a0 : List Int} {a1 : Int} {m_ : Nat} {t8_1 : Int} {res : Int} (h : slices_Index_int_L1 a0 a1 m_ t8_1 = some res) : ∃ k, m_ = k + 1 ∧ slices_Index_int_B1 a0 a1 (slices_Index_int_L1 a0 a1 k) t8_1 = some res := by
  cases m_ with
  | zero => cases h
  | succ k => exact ⟨k, rfl, h⟩
def slices_Index_int (a0 : List Int) (a1 : Int) : Option Int :=
  slices_Index_int_L1 a0 a1 FU (((0 : Int)))
def slices_Contains_int (a0 : List Int) (a1 : Int) : Option Bool :=
  bnd (slices_Index_int a0 a1) fun r1 =>
  some (decide ((0 : Int) ≤ r1))
def drain_across_k1 (t5_1 : Int) : Option Int :=
  some t5_1
def drain_across_k2 (t11_1 : Int) (rec1 : Int → Int → Option Int) (t5_2 : Int) : Option Int :=
  gd (InR (t11_1 + 1)) <|
  rec1 t5_2 ((t11_1 + 1))
def drain_across_k3 (t5_3 : Int) (t11_1 : Int) (rec1 : Int → Int → Option Int) (x1 : Drain) (t25_1 : Bool) : Option Int :=
  if t25_1 = true then
    gd (InR (t5_3 + x1.width)) <|
    drain_across_k2 t11_1 rec1 ((t5_3 + x1.width))
  else
    drain_across_k2 t11_1 rec1 t5_3
def drain_across_B1 (a0 : Net) (a1 : List Int) (rec1 : Int → Int → Option Int) (t5_3 : Int) (t11_1 : Int) : Option Int :=
  if t11_1 < ((a0.drains.length : Int)) then
    ix a0.drains t11_1 fun x1 =>
    bnd (slices_Contains_int a1 x1.from_) fun r1 =>
    if r1 = true then
      bnd (slices_Contains_int a1 x1.to_) fun r2 =>
      drain_across_k3 t5_3 t11_1 rec1 x1 ((!r2))
    else
      drain_across_k3 t5_3 t11_1 rec1 x1 false
  else
    drain_across_k1 t5_3
def drain_across_L1 (a0 : Net) (a1 : List Int) : Nat → Int → Int → Option Int
  | 0, _, _ => none
  | n_ + 1, t5_3, t11_1 => drain_across_B1 a0 a1 (drain_across_L1 a0 a1 n_) t5_3 t11_1
theorem drain_across_L1_s {a0 : Net} {a1 : List Int} {m_ : Nat} {t5_3 : Int} {t11_1 : Int} {res : Int} (h : drain_across_L1 a0 a1 m_ t5_3 t11_1 = some res) : ∃ k, m_ = k + 1 ∧ drain_across_B1 a0 a1 (drain_across_L1 a0 a1 k) t5_3 t11_1 = some res := by
  cases m_ with
  | zero => cases h
  | succ k => exact ⟨k, rfl, h⟩
def drain_across (a0 : Net) (a1 : List Int) : Option Int :=
  drain_across_L1 a0 a1 FU (((0 : Int))) (((0 : Int)))
def drain_Across_k1 (a0 : Net) (a1 : List Int) (t49_1 : Bool) : Option (Int × Int) :=
  if t49_1 = true then
    some ((0 : Int), (1 : Int))
  else
    bnd (drain_across a0 a1) fun r1 =>
    some (r1, (0 : Int))
def drain_Across_k2 (a0 : Net) (a1 : List Int) : Option (Int × Int) :=
  bnd (slices_Contains_int a1 a0.from_) fun r2 =>
  if r2 = true then
    bnd (slices_Contains_int a1 a0.to_) fun r3 =>
    drain_Across_k1 a0 a1 r3
  else
    drain_Across_k1 a0 a1 true
def drain_Across_k3 (t16_1 : Int) (rec1 : Int → Option (Int × Int)) (t37_1 : Bool) : Option (Int × Int) :=
  if t37_1 = true then
    some ((0 : Int), (1 : Int))
  else
    gd (InR (t16_1 + 1)) <|
    rec1 ((t16_1 + 1))
def drain_Across_B1 (a0 : Net) (a1 : List Int) (rec1 : Int → Option (Int × Int)) (t16_1 : Int) : Option (Int × Int) :=
  if t16_1 < ((a1.length : Int)) then
    ix a1 t16_1 fun x1 =>
    bnd (drain_isNode a0 x1) fun r4 =>
    if r4 = true then
      if (0 : Int) < t16_1 then
        gd (InR (t16_1 - 1)) <|
        ix a1 (t16_1 - 1) fun x2 =>
        drain_Across_k3 t16_1 rec1 ((decide (x1 ≤ x2)))
      else
        drain_Across_k3 t16_1 rec1 false
    else
      drain_Across_k3 t16_1 rec1 true
  else
    drain_Across_k2 a0 a1
def drain_Across_L1 (a0 : Net) (a1 : List Int) : Nat → Int → Option (Int × Int)
  | 0, _ => none
  | n_ + 1, t16_1 => drain_Across_B1 a0 a1 (drain_Across_L1 a0 a1 n_) t16_1
theorem drain_Across_L1_s {a0 : Net} {a1 : List Int} {m_ : Nat} {t16_1 : Int} {res : Int × Int} (h : drain_Across_L1 a0 a1 m_ t16_1 = some res) : ∃ k, m_ = k + 1 ∧ drain_Across_B1 a0 a1 (drain_Across_L1 a0 a1 k) t16_1 = some res := by
  cases m_ with
  | zero => cases h
  | succ k => exact ⟨k, rfl, h⟩
def drain_Across (a0 : Net) (a1 : List Int) : Option (Int × Int) :=
  bnd (drain_Validate a0) fun r5 =>
  if r5 = 0 then
    drain_Across_L1 a0 a1 FU (((0 : Int)))
  else
    some ((0 : Int), r5)
end Go.D2

set_option linter.unusedVariables false
namespace Go.D2
open Go.Tb
def law02_known : Option Bool :=
  bnd (law02_example) fun r1 =>
  bnd (drain_Most r1) fun r2 =>
  bnd (law02_example) fun r3 =>
  bnd (drain_Across r3 (([0] : List Int))) fun r4 =>
  if r2.2 = 0 then
    if r2.1 = 5 then
      if r4.2 = 0 then
        some (decide (r4.1 = 7))
      else
        some false
    else
      some false
  else
    some false
def ref02_within (a0 : Int) (a1 : Int) (a2 : Int) : Option Bool :=
  if a1 ≤ a0 then
    some (decide (a0 ≤ a2))
  else
    some false
def ref02_Validate_k1 : Option Int :=
  some ((0 : Int))
def ref02_Validate_k2 (t3_1 : Int) (rec1 : Int → Option Int) (t78_1 : Bool) : Option Int :=
  if t78_1 = true then
    some ((1 : Int))
  else
    gd (InR (t3_1 + 1)) <|
    rec1 ((t3_1 + 1))
def ref02_Validate_B1 (a0 : Net) (rec1 : Int → Option Int) (t3_1 : Int) : Option Int :=
  if t3_1 < ((a0.drains.length : Int)) then
    ix a0.drains t3_1 fun x1 =>
    gd (InR (a0.nodes - 1)) <|
    bnd (ref02_within x1.from_ ((0 : Int)) (a0.nodes - 1)) fun r1 =>
    if r1 = true then
      gd (InR (a0.nodes - 1)) <|
      bnd (ref02_within x1.to_ ((0 : Int)) (a0.nodes - 1)) fun r2 =>
      if r2 = true then
        if x1.from_ = x1.to_ then
          ref02_Validate_k2 t3_1 rec1 true
        else
          bnd (ref02_within x1.width ((0 : Int)) ((20 : Int))) fun r3 =>
          ref02_Validate_k2 t3_1 rec1 ((!r3))
      else
        ref02_Validate_k2 t3_1 rec1 true
    else
      ref02_Validate_k2 t3_1 rec1 true
  else
    ref02_Validate_k1
def ref02_Validate_L1 (a0 : Net) : Nat → Int → Option Int
  | 0, _ => none
  | n_ + 1, t3_1 => ref02_Validate_B1 a0 (ref02_Validate_L1 a0 n_) t3_1
theorem ref02_Validate_L1_s {a0 : Net} {m_ : Nat} {t3_1 : Int} {res : Int} (h : ref02_Validate_L1 a0 m_ t3_1 = some res) : ∃ k, m_ = k + 1 ∧ ref02_Validate_B1 a0 (ref02_Validate_L1 a0 k) t3_1 = some res := by
  cases m_ with
  | zero => cases h
  | succ k => exact ⟨k, rfl, h⟩
def ref02_Validate_k3 (a0 : Net) (t33_1 : Bool) : Option Int :=
  if t33_1 = true then
    some ((1 : Int))
  else
    if (16 : Int) < ((a0.drains.length : Int)) then
      some ((3 : Int))
    else
      ref02_Validate_L1 a0 FU (((0 : Int)))
def ref02_Validate (a0 : Net) : Option Int :=
  bnd (ref02_within a0.nodes ((2 : Int)) ((8 : Int))) fun r4 =>
  if r4 = true then
    gd (InR (a0.nodes - 1)) <|
    bnd (ref02_within a0.from_ ((0 : Int)) (a0.nodes - 1)) fun r5 =>
    if r5 = true then
      gd (InR (a0.nodes - 1)) <|
      bnd (ref02_within a0.to_ ((0 : Int)) (a0.nodes - 1)) fun r6 =>
      if r6 = true then
        ref02_Validate_k3 a0 ((decide (a0.from_ = a0.to_)))
      else
        ref02_Validate_k3 a0 true
    else
      ref02_Validate_k3 a0 true
  else
    ref02_Validate_k3 a0 true
end Go.D2

set_option linter.unusedVariables false
namespace Go.D2
open Go.Tb
def ref01_SameInts_k1 : Option Bool :=
  some true
def ref01_SameInts_B1 (a0 : List Int) (a1 : List Int) (rec1 : Int → Option Bool) (t5_1 : Int) : Option Bool :=
  if t5_1 < ((a0.length : Int)) then
    ix a0 t5_1 fun x1 =>
    ix a1 t5_1 fun x2 =>
    if x1 = x2 then
      gd (InR (t5_1 + 1)) <|
      rec1 ((t5_1 + 1))
    else
      some false
  else
    ref01_SameInts_k1
def ref01_SameInts_L1 (a0 : List Int) (a1 : List Int) : Nat → Int → Option Bool
  | 0, _ => none
  | n_ + 1, t5_1 => ref01_SameInts_B1 a0 a1 (ref01_SameInts_L1 a0 a1 n_) t5_1
theorem ref01_SameInts_L1_s {a0 : List Int} {a1 : List Int} {m_ : Nat} {t5_1 : Int} {res : Bool} (h : ref01_SameInts_L1 a0 a1 m_ t5_1 = some res) : ∃ k, m_ = k + 1 ∧ ref01_SameInts_B1 a0 a1 (ref01_SameInts_L1 a0 a1 k) t5_1 = some res := by
  cases m_ with
  | zero => cases h
  | succ k => exact ⟨k, rfl, h⟩
def ref01_SameInts (a0 : List Int) (a1 : List Int) : Option Bool :=
  if ((a0.length : Int)) = ((a1.length : Int)) then
    ref01_SameInts_L1 a0 a1 FU (((0 : Int)))
  else
    some false
end Go.D2

set_option linter.unusedVariables false
namespace Go.D2
open Go.Tb
structure Two where
  i : Int
  j : Int
end Go.D2

set_option linter.unusedVariables false
namespace Go.Tb
structure SlT {α β : Type} (w : World) (A : Option Addr) (c k : Nat) (enc : (Option Addr × Nat) × α → List Value) (f : α → List β) (k2 : Nat) (enc2 : β → List Value) (l : List α) : Prop where
  ex : ∃ hs : List (Option Addr × Nat), hs.length = l.length ∧ Sl w A c k ((hs.zip l).map enc) ∧ ∀ (j : Nat) (h : Option Addr × Nat) (x : α), hs[j]? = some h → l[j]? = some x → Sl w h.1 h.2 k2 ((f x).map enc2)
section
variable {α β : Type} {w w' : World} {A : Option Addr} {c k k2 : Nat} {enc : (Option Addr × Nat) × α → List Value} {f : α → List β} {enc2 : β → List Value} {l : List α}
theorem SlT.ext (h : SlT w A c k enc f k2 enc2 l) (e : Ext w w') : SlT w' A c k enc f k2 enc2 l := by
  obtain ⟨hs, h1, h2, h3⟩ := h.ex
  exact ⟨hs, h1, h2.ext e, fun j h x hj hx => (h3 j h x hj hx).ext e⟩
theorem SlT.at_ (h : SlT w A c k enc f k2 enc2 l) {j : Nat} {x : α} (hx : l[j]? = some x) : ∃ (Aj : Option Addr) (cj : Nat), Cells w (elemPtr A k j) (enc ((Aj, cj), x)) ∧ Sl w Aj cj k2 ((f x).map enc2) := by
  obtain ⟨hs, h1, h2, h3⟩ := h.ex
  have hlt := lt_of_at hx
  have hh : hs[j]? = some hs[j] := by simp [h1, hlt]
  refine ⟨hs[j].1, hs[j].2, ?_, h3 j _ x hh hx⟩
  exact h2.at_ (enc := enc) (x := (hs[j], x)) (by simp [List.getElem?_zip_eq_some, hh, hx])
theorem SlT.addr (h : SlT w A c k enc f k2 enc2 l) {i : Int} (h0 : 0 ≤ i ∧ i < l.length) : ∃ a, A = some a := by
  obtain ⟨hs, h1, h2, _⟩ := h.ex
  exact h2.addr (i := i) (by simp [h1]; omega)
theorem SlT.max (h : SlT w A c k enc f k2 enc2 l) : (l.length : Int) ≤ 9223372036854775807 := by
  obtain ⟨hs, h1, h2, _⟩ := h.ex
  have := h2.max
  simp [h1] at this
  omega
theorem SlT.nil_ : SlT w none 0 k enc f k2 enc2 [] := ⟨⟨[], rfl, Sl.nil (by decide), fun j h l hj => by simp at hj⟩⟩
end
end Go.Tb

set_option linter.unusedVariables false
namespace Go.D2
open Go.Tb
structure Trail where
  drains : List Int
  amount : Int
def encTrail (p : (Option Addr × Nat) × Trail) : List Value := [.slice p.1.1 p.2.drains.length p.1.2, .int .i64 p.2.amount]
def law02_many_k1 : Option Bool :=
  some false
def law02_many_B1 (a0 : List Trail) (rec1 : Int → Option Bool) (t3_1 : Int) : Option Bool :=
  if t3_1 < ((a0.length : Int)) then
    ix a0 t3_1 fun x1 =>
    if (100 : Int) < ((x1.drains.length : Int)) then
      some true
    else
      gd (InR (t3_1 + 1)) <|
      rec1 ((t3_1 + 1))
  else
    law02_many_k1
def law02_many_L1 (a0 : List Trail) : Nat → Int → Option Bool
  | 0, _ => none
  | n_ + 1, t3_1 => law02_many_B1 a0 (law02_many_L1 a0 n_) t3_1
theorem law02_many_L1_s {a0 : List Trail} {m_ : Nat} {t3_1 : Int} {res : Bool} (h : law02_many_L1 a0 m_ t3_1 = some res) : ∃ k, m_ = k + 1 ∧ law02_many_B1 a0 (law02_many_L1 a0 k) t3_1 = some res := by
  cases m_ with
  | zero => cases h
  | succ k => exact ⟨k, rfl, h⟩
def law02_many (a0 : List Trail) : Option Bool :=
  if (100 : Int) < ((a0.length : Int)) then
    some true
  else
    law02_many_L1 a0 FU (((0 : Int)))
def drain_isTrail_k1 (a0 : Net) (a1 : Trail) : Option Bool :=
  ix a1.drains 0 fun x1 =>
  ix a0.drains x1 fun x2 =>
  gd (InR (((a1.drains.length : Int)) - 1)) <|
  ix a1.drains (((a1.drains.length : Int)) - 1) fun x3 =>
  ix a0.drains x3 fun x4 =>
  if x2.from_ = x4.to_ then
    some true
  else
    if x2.from_ = a0.from_ then
      some (decide (x4.to_ = a0.to_))
    else
      some false
def drain_isTrail_k2 (t22_1 : Int) (rec1 : Int → Option Bool) (t65_1 : Bool) : Option Bool :=
  if t65_1 = true then
    some false
  else
    gd (InR (t22_1 + 1)) <|
    rec1 ((t22_1 + 1))
def drain_isTrail_B1 (a0 : Net) (a1 : Trail) (rec1 : Int → Option Bool) (t22_1 : Int) : Option Bool :=
  if t22_1 < ((a1.drains.length : Int)) then
    ix a1.drains t22_1 fun x5 =>
    gd (InR (((a0.drains.length : Int)) - 1)) <|
    bnd (drain_from x5 ((0 : Int)) (((a0.drains.length : Int)) - 1)) fun r1 =>
    if r1 = true then
      gd (0 ≤ t22_1 ∧ t22_1 ≤ (a1.drains.length : Int)) <|
      bnd (slices_Contains_int ((List.take (Int.toNat t22_1) a1.drains)) x5) fun r2 =>
      if r2 = true then
        drain_isTrail_k2 t22_1 rec1 true
      else
        if (0 : Int) < t22_1 then
          gd (InR (t22_1 - 1)) <|
          ix a1.drains (t22_1 - 1) fun x6 =>
          ix a0.drains x6 fun x7 =>
          ix a0.drains x5 fun x8 =>
          drain_isTrail_k2 t22_1 rec1 ((!(decide (x7.to_ = x8.from_))))
        else
          drain_isTrail_k2 t22_1 rec1 false
    else
      drain_isTrail_k2 t22_1 rec1 true
  else
    drain_isTrail_k1 a0 a1
def drain_isTrail_L1 (a0 : Net) (a1 : Trail) : Nat → Int → Option Bool
  | 0, _ => none
  | n_ + 1, t22_1 => drain_isTrail_B1 a0 a1 (drain_isTrail_L1 a0 a1 n_) t22_1
theorem drain_isTrail_L1_s {a0 : Net} {a1 : Trail} {m_ : Nat} {t22_1 : Int} {res : Bool} (h : drain_isTrail_L1 a0 a1 m_ t22_1 = some res) : ∃ k, m_ = k + 1 ∧ drain_isTrail_B1 a0 a1 (drain_isTrail_L1 a0 a1 k) t22_1 = some res := by
  cases m_ with
  | zero => cases h
  | succ k => exact ⟨k, rfl, h⟩
def drain_isTrail_k3 (a0 : Net) (a1 : Trail) (t18_1 : Bool) : Option Bool :=
  if t18_1 = true then
    some false
  else
    drain_isTrail_L1 a0 a1 FU (((0 : Int)))
def drain_isTrail (a0 : Net) (a1 : Trail) : Option Bool :=
  if ((a1.drains.length : Int)) = 0 then
    drain_isTrail_k3 a0 a1 true
  else
    bnd (drain_from a1.amount ((1 : Int)) ((20 : Int))) fun r3 =>
    drain_isTrail_k3 a0 a1 ((!r3))
def drain_Sum_k1 (l1 : List Int) : Option ((List Int) × Int) :=
  some (l1, (0 : Int))
def drain_Sum_k2 (t26_1 : Int) (rec1 : Int → (List Int) → Option ((List Int) × Int)) (l2 : List Int) : Option ((List Int) × Int) :=
  gd (InR (t26_1 + 1)) <|
  rec1 ((t26_1 + 1)) l2
def drain_Sum_B1 (t26_1 : Int) (rec1 : Int → (List Int) → Option ((List Int) × Int)) (x1 : Trail) (rec2 : Int → (List Int) → Option ((List Int) × Int)) (t37_1 : Int) (l3 : List Int) : Option ((List Int) × Int) :=
  if t37_1 < ((x1.drains.length : Int)) then
    ix x1.drains t37_1 fun x2 =>
    ix l3 x2 fun x3 =>
    gd (InR (x3 + x1.amount)) <|
    ix l3 x2 fun x4 =>
    gd (InR (t37_1 + 1)) <|
    rec2 ((t37_1 + 1)) (((l3.set (Int.toNat x2) (x3 + x1.amount))))
  else
    drain_Sum_k2 t26_1 rec1 l3
def drain_Sum_L1 (t26_1 : Int) (rec1 : Int → (List Int) → Option ((List Int) × Int)) (x1 : Trail) : Nat → Int → (List Int) → Option ((List Int) × Int)
  | 0, _, _ => none
  | n_ + 1, t37_1, l3 => drain_Sum_B1 t26_1 rec1 x1 (drain_Sum_L1 t26_1 rec1 x1 n_) t37_1 l3
theorem drain_Sum_L1_s {t26_1 : Int} {rec1 : Int → (List Int) → Option ((List Int) × Int)} {x1 : Trail} {m_ : Nat} {t37_1 : Int} {l3 : List Int} {res : (List Int) × Int} (h : drain_Sum_L1 t26_1 rec1 x1 m_ t37_1 l3 = some res) : ∃ k, m_ = k + 1 ∧ drain_Sum_B1 t26_1 rec1 x1 (drain_Sum_L1 t26_1 rec1 x1 k) t37_1 l3 = some res := by
  cases m_ with
  | zero => cases h
  | succ k => exact ⟨k, rfl, h⟩
def drain_Sum_B2 (a0 : Net) (a1 : List Trail) (rec1 : Int → (List Int) → Option ((List Int) × Int)) (t26_1 : Int) (l4 : List Int) : Option ((List Int) × Int) :=
  if t26_1 < ((a1.length : Int)) then
    ix a1 t26_1 fun x1 =>
    bnd (drain_isTrail a0 x1) fun r1 =>
    if r1 = true then
      drain_Sum_L1 t26_1 rec1 x1 FU (((0 : Int))) l4
    else
      some (([] : List Int), (1 : Int))
  else
    drain_Sum_k1 l4
def drain_Sum_L2 (a0 : Net) (a1 : List Trail) : Nat → Int → (List Int) → Option ((List Int) × Int)
  | 0, _, _ => none
  | n_ + 1, t26_1, l4 => drain_Sum_B2 a0 a1 (drain_Sum_L2 a0 a1 n_) t26_1 l4
theorem drain_Sum_L2_s {a0 : Net} {a1 : List Trail} {m_ : Nat} {t26_1 : Int} {l4 : List Int} {res : (List Int) × Int} (h : drain_Sum_L2 a0 a1 m_ t26_1 l4 = some res) : ∃ k, m_ = k + 1 ∧ drain_Sum_B2 a0 a1 (drain_Sum_L2 a0 a1 k) t26_1 l4 = some res := by
  cases m_ with
  | zero => cases h
  | succ k => exact ⟨k, rfl, h⟩
def drain_Sum (a0 : Net) (a1 : List Trail) : Option ((List Int) × Int) :=
  bnd (drain_Validate a0) fun r2 =>
  if r2 = 0 then
    if (40 : Int) < ((a1.length : Int)) then
      some (([] : List Int), (3 : Int))
    else
      gd (0 ≤ (a0.drains.length : Int) ∧ ((a0.drains.length : Int)) ≤ 1000000) <|
      drain_Sum_L2 a0 a1 FU (((0 : Int))) (((List.replicate (Int.toNat ((a0.drains.length : Int))) (0 : Int))))
  else
    some (([] : List Int), r2)
end Go.D2

namespace Go.Open2
open Go.Tb Go.Proofs Go.ChangeShapes Go.WideShapes Go.ChangeAt Go.RowKit Go.Joins Go.D2
theorem cells79_ : Try.prog.cellsOf 79 = 2 := by kernel_rfl
section
variable {H : Type} {enc : TypeId × Value → H} {W : World} {sp : Nat → Bool} {held : Bool} {r : Reach} {b0 base : Nat} {v : Value} {d : DataW H} {p : List MemPlace}
set_option maxRecDepth 100000 in
theorem open_ints0 {fuel : Nat} {y : DataW H × List MemPlace} (hf : DataW.trod enc Try.prog W base sp held fuel 30 [v] = some y) : ∃ (l : List Int) (A : Option Addr) (c : Nat), v = .slice A l.length c ∧ Sl W A c 1 (l.map encN) := by
  rcases open_ints Try.underlying30 Try.underlying3 (by kernel_rfl) hf with ⟨hcs, _⟩ | ⟨x, l, c, zs, hcs, _, hl, hm, hz, _, hcell, hwz⟩
  · cases hcs
    exact ⟨[], none, 0, rfl, Sl.nil (by omega)⟩
  · cases hcs
    have hzl : l ≤ zs.length := by rw [hz]; split <;> omega
    have htl : (zs.take l).length = l := by simp; omega
    refine ⟨zs.take l, some x, c, by rw [htl], ?_⟩
    · refine Sl.mk_ (len := (zs.take l).length) (by rw [htl]; exact hl) hm (fun _ => rfl) rfl (fun i z hi j u hu => ?_)
      cases j with
      | zero =>
        cases hu
        have hlt := lt_of_at hi
        simp at hlt
        have h2 := hcell i (by omega)
        simp only [List.getElem?_take] at hi
        split at hi
        · simp [List.getD, hi] at h2; simpa using h2
        · cases hi
      | succ j => simp [encN] at hu
set_option maxRecDepth 100000 in
theorem open_trails0 {fuel : Nat} {c1 : Value} {y : DataW H × List MemPlace} (h : DataW.trod enc Try.prog W base sp held fuel 45 [c1] = some y) : ∃ (l : List Trail) (A : Option Addr) (c : Nat), c1 = .slice A l.length c ∧ SlT W A c 2 encTrail (fun x => x.drains) 1 encN l := by
  rcases open_rows Try.underlying45 Try.underlying79 (by kernel_rfl) cells79_ h with hcs | ⟨a, len, cap, hcs, hl, hm, hi⟩
  · simp at hcs; subst hcs
    exact ⟨[], none, 0, rfl, SlT.nil_⟩
  · simp at hcs; subst hcs
    obtain ⟨L, hlen, hL⟩ := ex_list (Q := fun i (q : (Option Addr × Nat) × Trail) => (∀ (j : Nat) (u : Value), (encTrail q)[j]? = some u → W.cell? (a.add (i * 2 + j)) = some u) ∧ Sl W q.1.1 q.1.2 1 (q.2.drains.map encN)) len (fun i hilt => by
      obtain ⟨v0, y0, n0, h0, t0⟩ := hi i hilt 0 _ rfl
      obtain ⟨v1, y1, n1, h1, t1⟩ := hi i hilt 1 _ rfl
      obtain ⟨l, A, c, rfl, hs⟩ := open_ints0 t0
      obtain ⟨z1, e1, _, _⟩ := DataW.trod_int Try.underlying3 t1
      simp at e1
      subst e1
      refine ⟨((A, c), ⟨l, z1⟩), fun j u hu => ?_, hs⟩
      match j, hu with
      | 0, hu => cases hu; exact h0
      | 1, hu => cases hu; exact h1)
    have e1 : (L.map (·.2)).length = len := by simp [hlen]
    refine ⟨L.map (·.2), some a, cap, by rw [e1], ⟨L.map (·.1), by simp, ?_, fun j h q hj hq => ?_⟩⟩
    · have e2 : (L.map (·.1)).zip (L.map (·.2)) = L := by
        rw [List.zip_map']; simp
      rw [e2]
      exact Sl.mk_ (len := len) hl hm (fun _ => rfl) hlen (fun i z hz j u hu => (hL i z hz).1 j u hu)
    · simp only [List.getElem?_map, Option.map_eq_some_iff] at hj hq
      obtain ⟨z, hz, rfl⟩ := hj
      obtain ⟨z', hz', rfl⟩ := hq
      rw [hz] at hz'; cases hz'
      exact (hL j z hz).2
set_option maxRecDepth 100000 in
theorem open_trails (hv : Value.okWide Try.prog W r b0 45 v) (h : DataW.Trod enc Try.prog W base sp held 45 v d p) : ∃ (l : List Trail) (A : Option Addr) (c : Nat), v = .slice A l.length c ∧ SlT W A c 2 encTrail (fun x => x.drains) 1 encN l := by
  obtain ⟨a0, len0, cap0, rfl⟩ := okWide_slice Try.underlying45 hv
  obtain ⟨fuel, hf⟩ := h
  exact open_trails0 (by simpa [Value.cells] using hf)
end
end Go.Open2

set_option linter.unusedVariables false
namespace Go.D2
open Go.Tb
def ref02_Path_k1 (a0 : Net) (a1 : Trail) : Option (Int × Int × Bool) :=
  ix a1.drains 0 fun x1 =>
  ix a0.drains x1 fun x2 =>
  gd (InR (((a1.drains.length : Int)) - 1)) <|
  ix a1.drains (((a1.drains.length : Int)) - 1) fun x3 =>
  ix a0.drains x3 fun x4 =>
  some (x2.from_, x4.to_, true)
def ref02_Path_k2 (t7_1 : Int) (rec1 : Int → Option (Int × Int × Bool)) : Option (Int × Int × Bool) :=
  gd (InR (t7_1 + 1)) <|
  rec1 ((t7_1 + 1))
def ref02_Path_k3 (t7_1 : Int) (rec1 : Int → Option (Int × Int × Bool)) (t78_1 : Bool) : Option (Int × Int × Bool) :=
  if t78_1 = true then
    some ((0 : Int), (0 : Int), false)
  else
    ref02_Path_k2 t7_1 rec1
def ref02_Path_k4 (a0 : Net) (a1 : Trail) (t7_1 : Int) (rec1 : Int → Option (Int × Int × Bool)) : Option (Int × Int × Bool) :=
  if (0 : Int) < t7_1 then
    gd (InR (t7_1 - 1)) <|
    ix a1.drains (t7_1 - 1) fun x5 =>
    ix a0.drains x5 fun x6 =>
    ix a1.drains t7_1 fun x7 =>
    ix a0.drains x7 fun x8 =>
    ref02_Path_k3 t7_1 rec1 ((!(decide (x6.to_ = x8.from_))))
  else
    ref02_Path_k3 t7_1 rec1 false
def ref02_Path_B1 (a0 : Net) (a1 : Trail) (t7_1 : Int) (rec1 : Int → Option (Int × Int × Bool)) (rec2 : Int → Option (Int × Int × Bool)) (t8_1 : Int) : Option (Int × Int × Bool) :=
  if t8_1 < t7_1 then
    ix a1.drains t8_1 fun x9 =>
    ix a1.drains t7_1 fun x10 =>
    if x9 = x10 then
      some ((0 : Int), (0 : Int), false)
    else
      gd (InR (t8_1 + 1)) <|
      rec2 ((t8_1 + 1))
  else
    ref02_Path_k4 a0 a1 t7_1 rec1
def ref02_Path_L1 (a0 : Net) (a1 : Trail) (t7_1 : Int) (rec1 : Int → Option (Int × Int × Bool)) : Nat → Int → Option (Int × Int × Bool)
  | 0, _ => none
  | n_ + 1, t8_1 => ref02_Path_B1 a0 a1 t7_1 rec1 (ref02_Path_L1 a0 a1 t7_1 rec1 n_) t8_1
theorem ref02_Path_L1_s {a0 : Net} {a1 : Trail} {t7_1 : Int} {rec1 : Int → Option (Int × Int × Bool)} {m_ : Nat} {t8_1 : Int} {res : Int × Int × Bool} (h : ref02_Path_L1 a0 a1 t7_1 rec1 m_ t8_1 = some res) : ∃ k, m_ = k + 1 ∧ ref02_Path_B1 a0 a1 t7_1 rec1 (ref02_Path_L1 a0 a1 t7_1 rec1 k) t8_1 = some res := by
  cases m_ with
  | zero => cases h
  | succ k => exact ⟨k, rfl, h⟩
def ref02_Path_B2 (a0 : Net) (a1 : Trail) (rec1 : Int → Option (Int × Int × Bool)) (t7_1 : Int) : Option (Int × Int × Bool) :=
  if t7_1 < ((a1.drains.length : Int)) then
    ix a1.drains t7_1 fun x11 =>
    gd (InR (((a0.drains.length : Int)) - 1)) <|
    bnd (ref02_within x11 ((0 : Int)) (((a0.drains.length : Int)) - 1)) fun r1 =>
    if r1 = true then
      ref02_Path_L1 a0 a1 t7_1 rec1 FU (((0 : Int)))
    else
      some ((0 : Int), (0 : Int), false)
  else
    ref02_Path_k1 a0 a1
def ref02_Path_L2 (a0 : Net) (a1 : Trail) : Nat → Int → Option (Int × Int × Bool)
  | 0, _ => none
  | n_ + 1, t7_1 => ref02_Path_B2 a0 a1 (ref02_Path_L2 a0 a1 n_) t7_1
theorem ref02_Path_L2_s {a0 : Net} {a1 : Trail} {m_ : Nat} {t7_1 : Int} {res : Int × Int × Bool} (h : ref02_Path_L2 a0 a1 m_ t7_1 = some res) : ∃ k, m_ = k + 1 ∧ ref02_Path_B2 a0 a1 (ref02_Path_L2 a0 a1 k) t7_1 = some res := by
  cases m_ with
  | zero => cases h
  | succ k => exact ⟨k, rfl, h⟩
def ref02_Path_k5 (a0 : Net) (a1 : Trail) (t18_1 : Bool) : Option (Int × Int × Bool) :=
  if t18_1 = true then
    some ((0 : Int), (0 : Int), false)
  else
    ref02_Path_L2 a0 a1 FU (((0 : Int)))
def ref02_Path (a0 : Net) (a1 : Trail) : Option (Int × Int × Bool) :=
  if ((a1.drains.length : Int)) = 0 then
    ref02_Path_k5 a0 a1 true
  else
    bnd (ref02_within a1.amount ((1 : Int)) ((20 : Int))) fun r2 =>
    ref02_Path_k5 a0 a1 ((!r2))
def ref02_IsWay (a0 : Net) (a1 : Trail) : Option Bool :=
  bnd (ref02_Path a0 a1) fun r1 =>
  if r1.2.2 = true then
    if r1.1 = a0.from_ then
      some (decide (r1.2.1 = a0.to_))
    else
      some false
  else
    some false
def ref02_IsRound (a0 : Net) (a1 : Trail) : Option Bool :=
  bnd (ref02_Path a0 a1) fun r1 =>
  if r1.2.2 = true then
    some (decide (r1.1 = r1.2.1))
  else
    some false
def ref02_Sum_k1 (l1 : List Int) : Option ((List Int) × Int) :=
  some (l1, (0 : Int))
def ref02_Sum_k2 (t8_1 : Int) (rec1 : Int → (List Int) → Option ((List Int) × Int)) (l2 : List Int) : Option ((List Int) × Int) :=
  gd (InR (t8_1 + 1)) <|
  rec1 ((t8_1 + 1)) l2
def ref02_Sum_B1 (a1 : List Trail) (t8_1 : Int) (rec1 : Int → (List Int) → Option ((List Int) × Int)) (rec2 : Int → (List Int) → Option ((List Int) × Int)) (t9_1 : Int) (l3 : List Int) : Option ((List Int) × Int) :=
  ix a1 t8_1 fun x1 =>
  if t9_1 < ((x1.drains.length : Int)) then
    ix a1 t8_1 fun x2 =>
    ix x2.drains t9_1 fun x3 =>
    ix l3 x3 fun x4 =>
    ix a1 t8_1 fun x5 =>
    gd (InR (x4 + x5.amount)) <|
    ix l3 x3 fun x6 =>
    gd (InR (t9_1 + 1)) <|
    rec2 ((t9_1 + 1)) (((l3.set (Int.toNat x3) (x4 + x5.amount))))
  else
    ref02_Sum_k2 t8_1 rec1 l3
def ref02_Sum_L1 (a1 : List Trail) (t8_1 : Int) (rec1 : Int → (List Int) → Option ((List Int) × Int)) : Nat → Int → (List Int) → Option ((List Int) × Int)
  | 0, _, _ => none
  | n_ + 1, t9_1, l3 => ref02_Sum_B1 a1 t8_1 rec1 (ref02_Sum_L1 a1 t8_1 rec1 n_) t9_1 l3
theorem ref02_Sum_L1_s {a1 : List Trail} {t8_1 : Int} {rec1 : Int → (List Int) → Option ((List Int) × Int)} {m_ : Nat} {t9_1 : Int} {l3 : List Int} {res : (List Int) × Int} (h : ref02_Sum_L1 a1 t8_1 rec1 m_ t9_1 l3 = some res) : ∃ k, m_ = k + 1 ∧ ref02_Sum_B1 a1 t8_1 rec1 (ref02_Sum_L1 a1 t8_1 rec1 k) t9_1 l3 = some res := by
  cases m_ with
  | zero => cases h
  | succ k => exact ⟨k, rfl, h⟩
def ref02_Sum_k3 (a1 : List Trail) (t8_1 : Int) (l4 : List Int) (rec1 : Int → (List Int) → Option ((List Int) × Int)) (t43_1 : Bool) : Option ((List Int) × Int) :=
  if t43_1 = true then
    some (([] : List Int), (1 : Int))
  else
    ref02_Sum_L1 a1 t8_1 rec1 FU (((0 : Int))) l4
def ref02_Sum_B2 (a0 : Net) (a1 : List Trail) (rec1 : Int → (List Int) → Option ((List Int) × Int)) (t8_1 : Int) (l4 : List Int) : Option ((List Int) × Int) :=
  if t8_1 < ((a1.length : Int)) then
    ix a1 t8_1 fun x7 =>
    bnd (ref02_IsWay a0 x7) fun r1 =>
    if r1 = true then
      ref02_Sum_k3 a1 t8_1 l4 rec1 false
    else
      ix a1 t8_1 fun x8 =>
      bnd (ref02_IsRound a0 x8) fun r2 =>
      ref02_Sum_k3 a1 t8_1 l4 rec1 ((!r2))
  else
    ref02_Sum_k1 l4
def ref02_Sum_L2 (a0 : Net) (a1 : List Trail) : Nat → Int → (List Int) → Option ((List Int) × Int)
  | 0, _, _ => none
  | n_ + 1, t8_1, l4 => ref02_Sum_B2 a0 a1 (ref02_Sum_L2 a0 a1 n_) t8_1 l4
theorem ref02_Sum_L2_s {a0 : Net} {a1 : List Trail} {m_ : Nat} {t8_1 : Int} {l4 : List Int} {res : (List Int) × Int} (h : ref02_Sum_L2 a0 a1 m_ t8_1 l4 = some res) : ∃ k, m_ = k + 1 ∧ ref02_Sum_B2 a0 a1 (ref02_Sum_L2 a0 a1 k) t8_1 l4 = some res := by
  cases m_ with
  | zero => cases h
  | succ k => exact ⟨k, rfl, h⟩
def ref02_Sum (a0 : Net) (a1 : List Trail) : Option ((List Int) × Int) :=
  bnd (ref02_Validate a0) fun r3 =>
  if r3 = 0 then
    if (40 : Int) < ((a1.length : Int)) then
      some (([] : List Int), (3 : Int))
    else
      gd (0 ≤ (a0.drains.length : Int) ∧ ((a0.drains.length : Int)) ≤ 1000000) <|
      ref02_Sum_L2 a0 a1 FU (((0 : Int))) (((List.replicate (Int.toNat ((a0.drains.length : Int))) (0 : Int))))
  else
    some (([] : List Int), r3)
end Go.D2

set_option linter.unusedVariables false
namespace Go.D2
open Go.Tb
def law02_DrainSums_k1 (a0 : Net) (a1 : List Trail) (t14_1 : Bool) : Option Bool :=
  if t14_1 = true then
    bnd (law02_known) fun r1 =>
    some r1
  else
    bnd (drain_Sum a0 a1) fun r2 =>
    bnd (ref02_Sum a0 a1) fun r3 =>
    bnd (ref01_SameInts r2.1 r3.1) fun r4 =>
    if r4 = true then
      if r2.2 = r3.2 then
        bnd (law02_known) fun r5 =>
        some r5
      else
        some false
    else
      some false
def law02_DrainSums (a0 : Net) (a1 : List Trail) : Option Bool :=
  bnd (law02_Long a0) fun r6 =>
  if r6 = true then
    law02_DrainSums_k1 a0 a1 true
  else
    bnd (law02_many a1) fun r7 =>
    law02_DrainSums_k1 a0 a1 r7
end Go.D2

set_option linter.unusedVariables false
set_option linter.unusedSimpArgs false
namespace Go.D2
open Go.Tb Go.Proofs Go.RowKit
theorem Tc62 : callable Try.prog 62 = true := by kernel_rfl
theorem Tc64 : callable Try.prog 64 = true := by kernel_rfl
theorem Tc71 : callable Try.prog 71 = true := by kernel_rfl
theorem Tc90 : callable Try.prog 90 = true := by kernel_rfl
theorem Tf24_0 : tyF Try.prog 24 0 = some 0 := by kernel_rfl
theorem Tf24_1 : tyF Try.prog 24 1 = some 1 := by kernel_rfl
theorem Tf24_2 : tyF Try.prog 24 2 = some 2 := by kernel_rfl
theorem Tf24_3 : tyF Try.prog 24 3 = some 3 := by kernel_rfl
theorem Tk22 : tyK Try.prog 22 = some (false, 1) := by kernel_rfl
theorem Tk24 : tyK Try.prog 24 = some (true, 4) := by kernel_rfl
theorem Tk52 : tyK Try.prog 52 = some (true, 3) := by kernel_rfl
theorem Tk87 : tyK Try.prog 87 = some (true, 4) := by kernel_rfl
theorem Ts22 : tyS Try.prog 22 = some (52, 3, 24, [.int .i64 0, .int .i64 0, .int .i64 0]) := by kernel_rfl
theorem Ts63 : tyS Try.prog 63 = some (87, 4, 32, [.int .i64 0, .int .i64 0, .int .i64 0, .int .i64 0]) := by kernel_rfl
theorem Tz24 : tyZ Try.prog 24 = some (.agg #[.int .i64 0, .int .i64 0, .int .i64 0, .slice none 0 0]) := by kernel_rfl
theorem Tz52 : tyZ Try.prog 52 = some (.agg #[.int .i64 0, .int .i64 0, .int .i64 0]) := by kernel_rfl
set_option maxRecDepth 20000 in
set_option maxHeartbeats 1000000 in
theorem law02_Long_ok {a0 : Net} {A_a0_drains : Option Addr} {c_a0_drains : Nat} {w : World} {res : Bool} (h_a0_drains : Sl w A_a0_drains c_a0_drains 3 (a0.drains.map encDrain)) (F : law02_Long a0 = some res) : Calls Try.prog 16 #[.agg #[.int .i64 a0.nodes, .int .i64 a0.from_, .int .i64 a0.to_, .slice A_a0_drains a0.drains.length c_a0_drains]] w (Rt w (.bool res)) := by
  refine calls_of_cw (args := [.agg #[.int .i64 a0.nodes, .int .i64 a0.from_, .int .i64 a0.to_, .slice A_a0_drains a0.drains.length c_a0_drains]]) Try.func16 rfl rfl rfl rfl ?_
  have H := Hp.start w
  have R0 := H.ext
  unfold law02_Long at F
  refine CW.seq fun K1 hK1 => ?_
  refine CW.region ?_
  refine LW.go rfl rfl (OW.box rfl fun b1 w1 N1 => ?_)
  replace H := H.new N1 N1.blk
  replace R0 := H.ext
  refine LW.pure rfl rfl (RV.assign rfl) ?_
  refine LW.nil (hK1 _ _ ?_)
  refine CW.seq fun K2 hK2 => ?_
  refine CW.region ?_
  refine LW.pure rfl rfl (RV.fieldAddr Tf24_3 rfl) ?_
  refine LW.pure rfl rfl (RV.load1 Tk22 rfl ((H.blk 0 rfl).cells.off 3) rfl) ?_
  refine LW.pure rfl rfl (RV.len Ts22 rfl) ?_
  refine LW.pure rfl rfl (RV.gtr rfl rfl) ?_
  refine LW.pure rfl rfl (RV.assign rfl) ?_
  refine LW.nil (hK2 _ _ ?_)
  refine CW.ret ?_
  obtain rfl := Option.some.inj F
  refine ⟨_, (ResOK.one rfl), ?_⟩
  refine ⟨(by first | rfl | simp), R0⟩
set_option maxRecDepth 20000 in
set_option maxHeartbeats 1000000 in
theorem law02_example_ok {w : World} {res : Net} (F : law02_example = some res) : Calls Try.prog 55 #[] w (fun e w' => ∃ (A0_drains : Option Addr) (c0_drains : Nat), e = .returned (.agg #[.int .i64 res.nodes, .int .i64 res.from_, .int .i64 res.to_, .slice A0_drains res.drains.length c0_drains]) ∧ Hp w w' [.own A0_drains c0_drains 52 3 (List.map encDrain res.drains)]) := by
  refine calls_of_cw (args := []) Try.func55 rfl rfl rfl rfl ?_
  have H := Hp.start w
  have R0 := H.ext
  unfold law02_example at F
  refine CW.seq fun K1 hK1 => ?_
  refine CW.region ?_
  refine LW.go rfl rfl (OW.alloc Tz24 fun b1 w1 N1 => ?_)
  replace H := H.new N1 N1.blk
  replace R0 := H.ext
  refine LW.nil (hK1 _ _ ?_)
  refine CW.seq fun K2 hK2 => ?_
  refine CW.region ?_
  refine LW.pure rfl rfl (RV.build (vs := [.int .i64 0, .int .i64 1, .int .i64 3]) (cs := [.int .i64 0, .int .i64 1, .int .i64 3]) rfl (fun _ => by kernel_rfl)) ?_
  refine LW.pure rfl rfl (RV.build (vs := [.int .i64 0, .int .i64 1, .int .i64 4]) (cs := [.int .i64 0, .int .i64 1, .int .i64 4]) rfl (fun _ => by kernel_rfl)) ?_
  refine LW.pure rfl rfl (RV.build (vs := [.int .i64 1, .int .i64 2, .int .i64 5]) (cs := [.int .i64 1, .int .i64 2, .int .i64 5]) rfl (fun _ => by kernel_rfl)) ?_
  refine LW.go rfl rfl (OW.buildSlice (e := 52) (vs := [.agg #[.int .i64 0, .int .i64 1, .int .i64 3], .agg #[.int .i64 0, .int .i64 1, .int .i64 4], .agg #[.int .i64 1, .int .i64 2, .int .i64 5]]) (cs := [.int .i64 0, .int .i64 1, .int .i64 3, .int .i64 0, .int .i64 1, .int .i64 4, .int .i64 1, .int .i64 2, .int .i64 5]) rfl (fun _ => by kernel_rfl) fun b2 w2 N2 => ?_)
  replace H := H.made' (k := 3) (t := 52) (enc := encDrain) (l := ([(⟨0, 1, 3⟩ : Drain), (⟨0, 1, 4⟩ : Drain), (⟨1, 2, 5⟩ : Drain)] : List Drain)) N2 N2.blk (fun _ => rfl) rfl (by first | decide | omega | (simp; done) | (simp; omega))
  replace R0 := H.ext
  refine LW.pure rfl rfl (RV.build (vs := [.int .i64 3, .int .i64 0, .int .i64 2, .slice (some ⟨b2, 0, none⟩) 3 ((([(⟨0, 1, 3⟩ : Drain), (⟨0, 1, 4⟩ : Drain), (⟨1, 2, 5⟩ : Drain)] : List Drain)).length)]) (cs := [.int .i64 3, .int .i64 0, .int .i64 2, .slice (some ⟨b2, 0, none⟩) 3 ((([(⟨0, 1, 3⟩ : Drain), (⟨0, 1, 4⟩ : Drain), (⟨1, 2, 5⟩ : Drain)] : List Drain)).length)]) rfl (fun _ => by kernel_rfl)) ?_
  refine LW.go rfl rfl (OW.store Tk24 rfl rfl (H.blk 1 rfl) (off := 0) (vs := [.int .i64 3, .int .i64 0, .int .i64 2, .slice (some ⟨b2, 0, none⟩) 3 ((([(⟨0, 1, 3⟩ : Drain), (⟨0, 1, 4⟩ : Drain), (⟨1, 2, 5⟩ : Drain)] : List Drain)).length)]) rfl rfl rfl rfl rfl fun w3 S1 => ?_)
  replace H : Hp w w3 [.own (some ⟨b2, 0, none⟩) ((([(⟨0, 1, 3⟩ : Drain), (⟨0, 1, 4⟩ : Drain), (⟨1, 2, 5⟩ : Drain)] : List Drain)).length) 52 3 (List.map encDrain (([(⟨0, 1, 3⟩ : Drain), (⟨0, 1, 4⟩ : Drain), (⟨1, 2, 5⟩ : Drain)] : List Drain))), .blk b1 24 [.int .i64 3, .int .i64 0, .int .i64 2, .slice (some ⟨b2, 0, none⟩) 3 ((([(⟨0, 1, 3⟩ : Drain), (⟨0, 1, 4⟩ : Drain), (⟨1, 2, 5⟩ : Drain)] : List Drain)).length)]] := H.stored 1 rfl S1
  replace R0 := H.ext
  refine LW.nil (hK2 _ _ ?_)
  refine CW.ret ?_
  obtain rfl := Option.some.inj F
  refine ⟨_, (ResOK.cell1 ⟨_, rfl, run_loadVar_agg Tk24 (H.blk 1 rfl).cells (us := [.int .i64 3, .int .i64 0, .int .i64 2, .slice (some ⟨b2, 0, none⟩) 3 ((([(⟨0, 1, 3⟩ : Drain), (⟨0, 1, 4⟩ : Drain), (⟨1, 2, 5⟩ : Drain)] : List Drain)).length)]) rfl rfl⟩), ?_⟩
  replace H := H.pick (L' := [.own (some ⟨b2, 0, none⟩) ((([(⟨0, 1, 3⟩ : Drain), (⟨0, 1, 4⟩ : Drain), (⟨1, 2, 5⟩ : Drain)] : List Drain)).length) 52 3 (List.map encDrain (([(⟨0, 1, 3⟩ : Drain), (⟨0, 1, 4⟩ : Drain), (⟨1, 2, 5⟩ : Drain)] : List Drain)))]) [0] (by decide) rfl
  replace R0 := H.ext
  exact ⟨(some ⟨b2, 0, none⟩), ((([(⟨0, 1, 3⟩ : Drain), (⟨0, 1, 4⟩ : Drain), (⟨1, 2, 5⟩ : Drain)] : List Drain)).length), (by first | rfl | (simp; done) | (simp; omega)), H⟩
set_option maxRecDepth 20000 in
set_option maxHeartbeats 1000000 in
theorem drain_from_ok {a0 : Int} {a1 : Int} {a2 : Int} {w : World} {res : Bool} (F : drain_from a0 a1 a2 = some res) : Calls Try.prog 62 #[.int .i64 a0, .int .i64 a1, .int .i64 a2] w (Rt w (.bool res)) := by
  refine calls_of_cw (args := [.int .i64 a0, .int .i64 a1, .int .i64 a2]) Try.func62 rfl rfl rfl rfl ?_
  have H := Hp.start w
  have R0 := H.ext
  unfold drain_from at F
  refine CW.seq fun K1 hK1 => ?_
  refine CW.region ?_
  refine LW.pure rfl rfl (RV.assign rfl) ?_
  refine LW.nil (hK1 _ _ ?_)
  refine CW.seq fun K2 hK2 => ?_
  by_cases hp1 : a1 ≤ a0
  ·
    replace F := ite_y hp1 F
    have hq1 := dec_t hp1
    refine CW.region ?_
    refine LW.pure rfl rfl (RV.move rfl) ?_
    refine LW.pure rfl rfl (RV.move rfl) ?_
    refine LW.pure rfl rfl (RV.leq rfl rfl) ?_
    refine LW.pure rfl rfl (RV.move rfl) ?_
    refine LW.pureYB rfl rfl rfl rfl hq1 (RV.move rfl) ?_
    refine LW.pureYB rfl rfl rfl rfl hq1 (RV.move rfl) ?_
    refine LW.pureYB rfl rfl rfl rfl hq1 (RV.leq rfl rfl) ?_
    refine LW.pure rfl rfl (RV.pickTB rfl hq1 rfl) ?_
    refine LW.pure rfl rfl (RV.assign rfl) ?_
    refine LW.nil (hK2 _ _ ?_)
    refine CW.ret ?_
    obtain rfl := Option.some.inj F
    refine ⟨_, (ResOK.one rfl), ?_⟩
    refine ⟨(by first | rfl | simp), R0⟩
  ·
    replace F := ite_n hp1 F
    have hq1 := dec_f hp1
    refine CW.region ?_
    refine LW.pure rfl rfl (RV.move rfl) ?_
    refine LW.pure rfl rfl (RV.move rfl) ?_
    refine LW.pure rfl rfl (RV.leq rfl rfl) ?_
    refine LW.pure rfl rfl (RV.move rfl) ?_
    refine LW.noB rfl rfl rfl rfl (ne_beq (v := false) hq1 rfl) ?_
    refine LW.noB rfl rfl rfl rfl (ne_beq (v := false) hq1 rfl) ?_
    refine LW.noB rfl rfl rfl rfl (ne_beq (v := false) hq1 rfl) ?_
    refine LW.pure rfl rfl (RV.pickFB rfl hq1 rfl) ?_
    refine LW.pure rfl rfl (RV.assign rfl) ?_
    refine LW.nil (hK2 _ _ ?_)
    refine CW.ret ?_
    obtain rfl := Option.some.inj F
    refine ⟨_, (ResOK.one rfl), ?_⟩
    refine ⟨(by first | rfl | simp), R0⟩
set_option maxRecDepth 20000 in
set_option maxHeartbeats 1000000 in
theorem drain_isNode_ok {a0 : Net} {a1 : Int} {A_a0_drains : Option Addr} {c_a0_drains : Nat} {w : World} {res : Bool} (h_a0_drains : Sl w A_a0_drains c_a0_drains 3 (a0.drains.map encDrain)) (F : drain_isNode a0 a1 = some res) : Calls Try.prog 64 #[.agg #[.int .i64 a0.nodes, .int .i64 a0.from_, .int .i64 a0.to_, .slice A_a0_drains a0.drains.length c_a0_drains], .int .i64 a1] w (Rt w (.bool res)) := by
  refine calls_of_cw (args := [.agg #[.int .i64 a0.nodes, .int .i64 a0.from_, .int .i64 a0.to_, .slice A_a0_drains a0.drains.length c_a0_drains], .int .i64 a1]) Try.func64 rfl rfl rfl rfl ?_
  have H := Hp.start w
  have R0 := H.ext
  unfold drain_isNode at F
  refine CW.seq fun K1 hK1 => ?_
  refine CW.region ?_
  refine LW.go rfl rfl (OW.box rfl fun b1 w1 N1 => ?_)
  replace H := H.new N1 N1.blk
  replace R0 := H.ext
  refine LW.pure rfl rfl (RV.assign rfl) ?_
  refine LW.nil (hK1 _ _ ?_)
  refine CW.seq fun K2 hK2 => ?_
  obtain ⟨hg1, F⟩ := gd_some F
  obtain ⟨r1, hr1, F⟩ := bnd_some F
  refine CW.region ?_
  refine LW.pure rfl rfl (RV.move rfl) ?_
  refine LW.pure rfl rfl (RV.fieldAddr Tf24_0 rfl) ?_
  refine LW.pure rfl rfl (RV.load1 Tk3 rfl ((H.blk 0 rfl).cells.off 0) rfl) ?_
  refine LW.pure rfl rfl (RV.sub rfl rfl hg1) ?_
  refine LW.go rfl rfl (OW.call Tc62 rfl (drain_from_ok (a0 := a1) (a1 := (0 : Int)) (a2 := a0.nodes - 1) hr1) ?_)
  rintro _ w2 ⟨rfl, E1⟩
  refine ⟨_, rfl, ?_⟩
  replace H := H.grow E1
  replace R0 := H.ext
  refine LW.pure rfl rfl (RV.assign rfl) ?_
  refine LW.nil (hK2 _ _ ?_)
  refine CW.ret ?_
  obtain rfl := Option.some.inj F
  refine ⟨_, (ResOK.one rfl), ?_⟩
  refine ⟨(by first | rfl | simp), R0⟩
set_option maxRecDepth 20000 in
set_option maxHeartbeats 1000000 in
theorem drain_Validate_ok {a0 : Net} {A_a0_drains : Option Addr} {c_a0_drains : Nat} {w : World} {res : Int} (h_a0_drains : Sl w A_a0_drains c_a0_drains 3 (a0.drains.map encDrain)) (F : drain_Validate a0 = some res) : Calls Try.prog 26 #[.agg #[.int .i64 a0.nodes, .int .i64 a0.from_, .int .i64 a0.to_, .slice A_a0_drains a0.drains.length c_a0_drains]] w (Rt w (.int .i64 res)) := by
  refine calls_of_cw (args := [.agg #[.int .i64 a0.nodes, .int .i64 a0.from_, .int .i64 a0.to_, .slice A_a0_drains a0.drains.length c_a0_drains]]) Try.func26 rfl rfl rfl rfl ?_
  have H := Hp.start w
  have R0 := H.ext
  unfold drain_Validate at F
  refine CW.seq fun K1 hK1 => ?_
  refine CW.region ?_
  refine LW.go rfl rfl (OW.box rfl fun b1 w1 N1 => ?_)
  replace H := H.new N1 N1.blk
  replace R0 := H.ext
  refine LW.pure rfl rfl (RV.assign rfl) ?_
  refine LW.nil (hK1 _ _ ?_)
  refine CW.seq fun K2 hK2 => ?_
  refine CW.seqJ (fun ρ wl1 => (∃ (t29_1 : Bool), drain_Validate_k3 a0 t29_1 = some res ∧ ρ = [(1, .pointer (some (⟨b1, 0, none⟩))), (2, .int .i64 0), (29, .bool t29_1)] ∧ Hp w wl1 [.blk b1 24 [.int .i64 a0.nodes, .int .i64 a0.from_, .int .i64 a0.to_, .slice A_a0_drains a0.drains.length c_a0_drains]])) ?_ ?_
  ·
    rintro _ wl1 ⟨t29_1, F, rfl, H⟩
    have R0 := H.ext
    unfold drain_Validate_k3 at F
    by_cases hp1 : t29_1 = true
    ·
      replace F := ite_y hp1 F
      have hq1 : t29_1 = true := hp1
      refine CW.condT rfl hq1 ?_
      refine CW.seq fun K3 hK3 => ?_
      refine CW.region ?_
      refine LW.pure rfl rfl (RV.assign rfl) ?_
      refine LW.nil (hK3 _ _ ?_)
      refine CW.ret ?_
      obtain rfl := Option.some.inj F
      refine ⟨_, (ResOK.one rfl), ?_⟩
      refine ⟨(by first | rfl | simp), R0⟩
    ·
      replace F := ite_n hp1 F
      have hq1 : t29_1 = false := raw_f hp1
      refine CW.condF rfl hq1 ?_
      refine CW.skip (hK2 _ _ ?_)
      refine CW.seq fun K4 hK4 => ?_
      refine CW.seq fun K5 hK5 => ?_
      refine CW.region ?_
      refine LW.pure rfl rfl (RV.fieldAddr Tf24_3 rfl) ?_
      refine LW.pure rfl rfl (RV.load1 Tk22 rfl ((H.blk 0 rfl).cells.off 3) rfl) ?_
      refine LW.pure rfl rfl (RV.len Ts22 rfl) ?_
      refine LW.pure rfl rfl (RV.gtr rfl rfl) ?_
      refine LW.nil (hK5 _ _ ?_)
      by_cases hp2 : (16 : Int) < ((a0.drains.length : Int))
      ·
        replace F := ite_y hp2 F
        have hq2 := dec_t hp2
        refine CW.condT rfl hq2 ?_
        refine CW.seq fun K6 hK6 => ?_
        refine CW.region ?_
        refine LW.pure rfl rfl (RV.assign rfl) ?_
        refine LW.nil (hK6 _ _ ?_)
        refine CW.ret ?_
        obtain rfl := Option.some.inj F
        refine ⟨_, (ResOK.one rfl), ?_⟩
        refine ⟨(by first | rfl | simp), R0⟩
      ·
        replace F := ite_n hp2 F
        have hq2 := dec_f hp2
        refine CW.condF rfl hq2 ?_
        refine CW.skip (hK4 _ _ ?_)
        refine CW.seqJ (fun ρ wl2 => (drain_Validate_k1 = some res ∧ ρ = [(2, .int .i64 0)] ∧ Hp w wl2 [])) ?_ ?_
        ·
          rintro _ wl2 ⟨F, rfl, H⟩
          have R0 := H.ext
          unfold drain_Validate_k1 at F
          refine CW.seq fun K7 hK7 => ?_
          refine CW.region ?_
          refine LW.pure rfl rfl (RV.assign rfl) ?_
          refine LW.nil (hK7 _ _ ?_)
          refine CW.ret ?_
          obtain rfl := Option.some.inj F
          refine ⟨_, (ResOK.one rfl), ?_⟩
          refine ⟨(by first | rfl | simp), R0⟩
        ·
          intro K8 hK8 jK74
          refine CW.seq fun K9 hK9 => ?_
          refine CW.region ?_
          refine LW.pure rfl rfl (RV.fieldAddr Tf24_3 rfl) ?_
          refine LW.pure rfl rfl (RV.load1 Tk22 rfl ((H.blk 0 rfl).cells.off 3) rfl) ?_
          refine LW.pure rfl rfl (RV.len Ts22 rfl) ?_
          refine LW.pure rfl rfl (RV.move rfl) ?_
          refine LW.nil (hK9 _ _ ?_)
          refine CW.block ?_
          refine CW.loop (fun meas ρ wl3 => ∃ (t37_1 : Int), drain_Validate_L1 a0 meas t37_1 = some res ∧ ρ = [(1, .pointer (some (⟨b1, 0, none⟩))), (2, .int .i64 0), (35, .slice A_a0_drains a0.drains.length c_a0_drains), (36, .int .i64 ((a0.drains.length : Int))), (37, .int .i64 t37_1)] ∧ Hp w wl3 [.blk b1 24 [.int .i64 a0.nodes, .int .i64 a0.from_, .int .i64 a0.to_, .slice A_a0_drains a0.drains.length c_a0_drains]]) FU ⟨_, ?_, ((0 : Int)), F, rfl, H⟩ ?_
          · exact ⟨rfl, rfl, rfl, rfl, rfl, trivial⟩
          rintro mk1 _ wl3 ⟨t37_1, F, rfl, H⟩
          have R0 := H.ext
          replace F := drain_Validate_L1_s F
          obtain ⟨mk1, rfl, F⟩ := F
          generalize hrec1 : drain_Validate_L1 a0 mk1 = rec1 at F
          unfold drain_Validate_B1 at F
          refine CW.seq fun K10 hK10 => ?_
          refine CW.region ?_
          refine LW.pure rfl rfl (RV.lss rfl rfl) ?_
          refine LW.nil (hK10 _ _ ?_)
          refine CW.seq fun K11 hK11 => ?_
          by_cases hp3 : t37_1 < ((a0.drains.length : Int))
          ·
            replace F := ite_y hp3 F
            have hq3 := dec_t hp3
            refine CW.condT rfl hq3 ?_
            refine CW.skip (hK11 _ _ ?_)
            refine CW.seq fun K12 hK12 => ?_
            refine CW.block ?_
            refine CW.seq fun K13 hK13 => ?_
            obtain ⟨x1, hbx1, hx1, F⟩ := ix_some F
            refine CW.region ?_
            refine LW.pure rfl rfl (RV.indexAddr Ts22 rfl rfl hbx1 (h_a0_drains.addr_ hx1)) ?_
            refine LW.pure rfl rfl (RV.loadA [.int .i64 x1.from_, .int .i64 x1.to_, .int .i64 x1.width] Tk52 rfl ((h_a0_drains.at_ hx1).ext R0) rfl rfl) ?_
            refine LW.go rfl rfl (OW.alloc Tz52 fun b2 w2 N2 => ?_)
            replace H := H.new N2 N2.blk
            replace R0 := H.ext
            refine LW.go rfl rfl (OW.store Tk52 rfl rfl (H.blk 0 rfl) (off := 0) (vs := [.int .i64 x1.from_, .int .i64 x1.to_, .int .i64 x1.width]) rfl rfl rfl rfl rfl fun w3 S1 => ?_)
            replace H : Hp w w3 [.blk b2 52 [.int .i64 x1.from_, .int .i64 x1.to_, .int .i64 x1.width], .blk b1 24 [.int .i64 a0.nodes, .int .i64 a0.from_, .int .i64 a0.to_, .slice A_a0_drains a0.drains.length c_a0_drains]] := H.stored 0 rfl S1
            replace R0 := H.ext
            refine LW.nil (hK13 _ _ ?_)
            refine CW.seqJ (fun ρ wl4 => (∃ (t65_1 : Bool), drain_Validate_k2 t37_1 rec1 t65_1 = some res ∧ ρ = [(1, .pointer (some (⟨b1, 0, none⟩))), (2, .int .i64 0), (35, .slice A_a0_drains a0.drains.length c_a0_drains), (36, .int .i64 ((a0.drains.length : Int))), (37, .int .i64 t37_1), (65, .bool t65_1)] ∧ Hp w wl4 [.blk b1 24 [.int .i64 a0.nodes, .int .i64 a0.from_, .int .i64 a0.to_, .slice A_a0_drains a0.drains.length c_a0_drains]])) ?_ ?_
            ·
              rintro _ wl4 ⟨t65_1, F, rfl, H⟩
              have R0 := H.ext
              unfold drain_Validate_k2 at F
              by_cases hp4 : t65_1 = true
              ·
                replace F := ite_y hp4 F
                have hq4 : t65_1 = true := hp4
                refine CW.condT rfl hq4 ?_
                refine CW.seq fun K14 hK14 => ?_
                refine CW.region ?_
                refine LW.pure rfl rfl (RV.assign rfl) ?_
                refine LW.nil (hK14 _ _ ?_)
                refine CW.ret ?_
                obtain rfl := Option.some.inj F
                refine ⟨_, (ResOK.one rfl), ?_⟩
                refine ⟨(by first | rfl | simp), R0⟩
              ·
                replace F := ite_n hp4 F
                have hq4 : t65_1 = false := raw_f hp4
                refine CW.condF rfl hq4 ?_
                refine CW.skip (hK12 _ _ ?_)
                obtain ⟨hg1, F⟩ := gd_some F
                refine CW.region ?_
                refine LW.pure rfl rfl (RV.add rfl rfl hg1) ?_
                refine LW.pure rfl rfl (RV.move rfl) ?_
                refine LW.nil ?_
                subst hrec1
                refine ⟨mk1, Nat.lt_succ_self _, _, ?_, (t37_1 + 1), F, rfl, H⟩
                exact ⟨rfl, rfl, rfl, rfl, rfl, trivial⟩
            ·
              intro K15 hK15 jK93
              obtain ⟨r1, hr1, F⟩ := bnd_some F
              by_cases hp5 : r1 = true
              ·
                replace F := ite_y hp5 F
                have hq5 : r1 = true := hp5
                obtain ⟨r2, hr2, F⟩ := bnd_some F
                by_cases hp6 : r2 = true
                ·
                  replace F := ite_y hp6 F
                  have hq6 : r2 = true := hp6
                  by_cases hp7 : x1.from_ = x1.to_
                  ·
                    replace F := ite_y hp7 F
                    have hq7 := dec_t hp7
                    refine CW.region ?_
                    refine LW.pure rfl rfl (RV.loadA [.int .i64 a0.nodes, .int .i64 a0.from_, .int .i64 a0.to_, .slice A_a0_drains a0.drains.length c_a0_drains] Tk24 rfl (H.blk 1 rfl).cells rfl rfl) ?_
                    refine LW.pure rfl rfl (RV.fieldAddr Tf52_0 rfl) ?_
                    refine LW.pure rfl rfl (RV.load1 Tk3 rfl ((H.blk 0 rfl).cells.off 0) rfl) ?_
                    refine LW.go rfl rfl (OW.call Tc64 rfl (drain_isNode_ok (a0 := a0) (a1 := x1.from_) (h_a0_drains.ext R0) hr1) ?_)
                    rintro _ w4 ⟨rfl, E1⟩
                    refine ⟨_, rfl, ?_⟩
                    replace H := H.grow E1
                    replace R0 := H.ext
                    refine LW.pure rfl rfl (RV.not rfl) ?_
                    refine LW.pure rfl rfl (RV.move rfl) ?_
                    refine LW.pureYB rfl rfl rfl rfl (not_f hq5) (RV.loadA [.int .i64 a0.nodes, .int .i64 a0.from_, .int .i64 a0.to_, .slice A_a0_drains a0.drains.length c_a0_drains] Tk24 rfl (H.blk 1 rfl).cells rfl rfl) ?_
                    refine LW.pureYB rfl rfl rfl rfl (not_f hq5) (RV.fieldAddr Tf52_1 rfl) ?_
                    refine LW.pureYB rfl rfl rfl rfl (not_f hq5) (RV.load1 Tk3 rfl ((H.blk 0 rfl).cells.off 1) rfl) ?_
                    refine LW.yesB rfl rfl rfl rfl (not_f hq5) (OW.call Tc64 rfl (drain_isNode_ok (a0 := a0) (a1 := x1.to_) (h_a0_drains.ext R0) hr2) ?_)
                    rintro _ w5 ⟨rfl, E2⟩
                    refine ⟨_, rfl, ?_⟩
                    replace H := H.grow E2
                    replace R0 := H.ext
                    refine LW.pureYB rfl rfl rfl rfl (not_f hq5) (RV.not rfl) ?_
                    refine LW.pure rfl rfl (RV.pickFB rfl (not_f hq5) rfl) ?_
                    refine LW.pure rfl rfl (RV.move rfl) ?_
                    refine LW.pureYB rfl rfl rfl rfl (not_f hq6) (RV.fieldAddr Tf52_0 rfl) ?_
                    refine LW.pureYB rfl rfl rfl rfl (not_f hq6) (RV.load1 Tk3 rfl ((H.blk 0 rfl).cells.off 0) rfl) ?_
                    refine LW.pureYB rfl rfl rfl rfl (not_f hq6) (RV.fieldAddr Tf52_1 rfl) ?_
                    refine LW.pureYB rfl rfl rfl rfl (not_f hq6) (RV.load1 Tk3 rfl ((H.blk 0 rfl).cells.off 1) rfl) ?_
                    refine LW.pureYB rfl rfl rfl rfl (not_f hq6) (RV.eqi rfl rfl) ?_
                    refine LW.pure rfl rfl (RV.pickFB rfl (not_f hq6) rfl) ?_
                    refine LW.pure rfl rfl (RV.move rfl) ?_
                    refine LW.noB rfl rfl rfl rfl (ne_beq (v := true) hq7 rfl) ?_
                    refine LW.noB rfl rfl rfl rfl (ne_beq (v := true) hq7 rfl) ?_
                    refine LW.noB rfl rfl rfl rfl (ne_beq (v := true) hq7 rfl) ?_
                    refine LW.noB rfl rfl rfl rfl (ne_beq (v := true) hq7 rfl) ?_
                    refine LW.pure rfl rfl (RV.pickTB rfl hq7 rfl) ?_
                    replace H := H.pick (L' := [.blk b1 24 [.int .i64 a0.nodes, .int .i64 a0.from_, .int .i64 a0.to_, .slice A_a0_drains a0.drains.length c_a0_drains]]) [1] (by decide) rfl
                    replace R0 := H.ext
                    refine LW.nil (jK93 _ _ ⟨_, ?_, ⟨true, F, rfl, H⟩⟩)
                    exact ⟨rfl, rfl, rfl, rfl, rfl, rfl, trivial⟩
                  ·
                    replace F := ite_n hp7 F
                    have hq7 := dec_f hp7
                    obtain ⟨r3, hr3, F⟩ := bnd_some F
                    refine CW.region ?_
                    refine LW.pure rfl rfl (RV.loadA [.int .i64 a0.nodes, .int .i64 a0.from_, .int .i64 a0.to_, .slice A_a0_drains a0.drains.length c_a0_drains] Tk24 rfl (H.blk 1 rfl).cells rfl rfl) ?_
                    refine LW.pure rfl rfl (RV.fieldAddr Tf52_0 rfl) ?_
                    refine LW.pure rfl rfl (RV.load1 Tk3 rfl ((H.blk 0 rfl).cells.off 0) rfl) ?_
                    refine LW.go rfl rfl (OW.call Tc64 rfl (drain_isNode_ok (a0 := a0) (a1 := x1.from_) (h_a0_drains.ext R0) hr1) ?_)
                    rintro _ w6 ⟨rfl, E3⟩
                    refine ⟨_, rfl, ?_⟩
                    replace H := H.grow E3
                    replace R0 := H.ext
                    refine LW.pure rfl rfl (RV.not rfl) ?_
                    refine LW.pure rfl rfl (RV.move rfl) ?_
                    refine LW.pureYB rfl rfl rfl rfl (not_f hq5) (RV.loadA [.int .i64 a0.nodes, .int .i64 a0.from_, .int .i64 a0.to_, .slice A_a0_drains a0.drains.length c_a0_drains] Tk24 rfl (H.blk 1 rfl).cells rfl rfl) ?_
                    refine LW.pureYB rfl rfl rfl rfl (not_f hq5) (RV.fieldAddr Tf52_1 rfl) ?_
                    refine LW.pureYB rfl rfl rfl rfl (not_f hq5) (RV.load1 Tk3 rfl ((H.blk 0 rfl).cells.off 1) rfl) ?_
                    refine LW.yesB rfl rfl rfl rfl (not_f hq5) (OW.call Tc64 rfl (drain_isNode_ok (a0 := a0) (a1 := x1.to_) (h_a0_drains.ext R0) hr2) ?_)
                    rintro _ w7 ⟨rfl, E4⟩
                    refine ⟨_, rfl, ?_⟩
                    replace H := H.grow E4
                    replace R0 := H.ext
                    refine LW.pureYB rfl rfl rfl rfl (not_f hq5) (RV.not rfl) ?_
                    refine LW.pure rfl rfl (RV.pickFB rfl (not_f hq5) rfl) ?_
                    refine LW.pure rfl rfl (RV.move rfl) ?_
                    refine LW.pureYB rfl rfl rfl rfl (not_f hq6) (RV.fieldAddr Tf52_0 rfl) ?_
                    refine LW.pureYB rfl rfl rfl rfl (not_f hq6) (RV.load1 Tk3 rfl ((H.blk 0 rfl).cells.off 0) rfl) ?_
                    refine LW.pureYB rfl rfl rfl rfl (not_f hq6) (RV.fieldAddr Tf52_1 rfl) ?_
                    refine LW.pureYB rfl rfl rfl rfl (not_f hq6) (RV.load1 Tk3 rfl ((H.blk 0 rfl).cells.off 1) rfl) ?_
                    refine LW.pureYB rfl rfl rfl rfl (not_f hq6) (RV.eqi rfl rfl) ?_
                    refine LW.pure rfl rfl (RV.pickFB rfl (not_f hq6) rfl) ?_
                    refine LW.pure rfl rfl (RV.move rfl) ?_
                    refine LW.pureYB rfl rfl rfl rfl hq7 (RV.fieldAddr Tf52_2 rfl) ?_
                    refine LW.pureYB rfl rfl rfl rfl hq7 (RV.load1 Tk3 rfl ((H.blk 0 rfl).cells.off 2) rfl) ?_
                    refine LW.yesB rfl rfl rfl rfl hq7 (OW.call Tc62 rfl (drain_from_ok (a0 := x1.width) (a1 := (0 : Int)) (a2 := (20 : Int)) hr3) ?_)
                    rintro _ w8 ⟨rfl, E5⟩
                    refine ⟨_, rfl, ?_⟩
                    replace H := H.grow E5
                    replace R0 := H.ext
                    refine LW.pureYB rfl rfl rfl rfl hq7 (RV.not rfl) ?_
                    refine LW.pure rfl rfl (RV.pickFB rfl hq7 rfl) ?_
                    replace H := H.pick (L' := [.blk b1 24 [.int .i64 a0.nodes, .int .i64 a0.from_, .int .i64 a0.to_, .slice A_a0_drains a0.drains.length c_a0_drains]]) [1] (by decide) rfl
                    replace R0 := H.ext
                    refine LW.nil (jK93 _ _ ⟨_, ?_, ⟨(!r3), F, rfl, H⟩⟩)
                    exact ⟨rfl, rfl, rfl, rfl, rfl, rfl, trivial⟩
                ·
                  replace F := ite_n hp6 F
                  have hq6 : r2 = false := raw_f hp6
                  refine CW.region ?_
                  refine LW.pure rfl rfl (RV.loadA [.int .i64 a0.nodes, .int .i64 a0.from_, .int .i64 a0.to_, .slice A_a0_drains a0.drains.length c_a0_drains] Tk24 rfl (H.blk 1 rfl).cells rfl rfl) ?_
                  refine LW.pure rfl rfl (RV.fieldAddr Tf52_0 rfl) ?_
                  refine LW.pure rfl rfl (RV.load1 Tk3 rfl ((H.blk 0 rfl).cells.off 0) rfl) ?_
                  refine LW.go rfl rfl (OW.call Tc64 rfl (drain_isNode_ok (a0 := a0) (a1 := x1.from_) (h_a0_drains.ext R0) hr1) ?_)
                  rintro _ w9 ⟨rfl, E6⟩
                  refine ⟨_, rfl, ?_⟩
                  replace H := H.grow E6
                  replace R0 := H.ext
                  refine LW.pure rfl rfl (RV.not rfl) ?_
                  refine LW.pure rfl rfl (RV.move rfl) ?_
                  refine LW.pureYB rfl rfl rfl rfl (not_f hq5) (RV.loadA [.int .i64 a0.nodes, .int .i64 a0.from_, .int .i64 a0.to_, .slice A_a0_drains a0.drains.length c_a0_drains] Tk24 rfl (H.blk 1 rfl).cells rfl rfl) ?_
                  refine LW.pureYB rfl rfl rfl rfl (not_f hq5) (RV.fieldAddr Tf52_1 rfl) ?_
                  refine LW.pureYB rfl rfl rfl rfl (not_f hq5) (RV.load1 Tk3 rfl ((H.blk 0 rfl).cells.off 1) rfl) ?_
                  refine LW.yesB rfl rfl rfl rfl (not_f hq5) (OW.call Tc64 rfl (drain_isNode_ok (a0 := a0) (a1 := x1.to_) (h_a0_drains.ext R0) hr2) ?_)
                  rintro _ w10 ⟨rfl, E7⟩
                  refine ⟨_, rfl, ?_⟩
                  replace H := H.grow E7
                  replace R0 := H.ext
                  refine LW.pureYB rfl rfl rfl rfl (not_f hq5) (RV.not rfl) ?_
                  refine LW.pure rfl rfl (RV.pickFB rfl (not_f hq5) rfl) ?_
                  refine LW.pure rfl rfl (RV.move rfl) ?_
                  refine LW.noB rfl rfl rfl rfl (ne_beq (v := true) (not_t hq6) rfl) ?_
                  refine LW.noB rfl rfl rfl rfl (ne_beq (v := true) (not_t hq6) rfl) ?_
                  refine LW.noB rfl rfl rfl rfl (ne_beq (v := true) (not_t hq6) rfl) ?_
                  refine LW.noB rfl rfl rfl rfl (ne_beq (v := true) (not_t hq6) rfl) ?_
                  refine LW.noB rfl rfl rfl rfl (ne_beq (v := true) (not_t hq6) rfl) ?_
                  refine LW.pure rfl rfl (RV.pickTB rfl (not_t hq6) rfl) ?_
                  refine LW.pure rfl rfl (RV.move rfl) ?_
                  refine LW.noB rfl rfl rfl rfl (ne_beq (v := true) rfl rfl) ?_
                  refine LW.noB rfl rfl rfl rfl (ne_beq (v := true) rfl rfl) ?_
                  refine LW.noB rfl rfl rfl rfl (ne_beq (v := true) rfl rfl) ?_
                  refine LW.noB rfl rfl rfl rfl (ne_beq (v := true) rfl rfl) ?_
                  refine LW.pure rfl rfl (RV.pickTB rfl rfl rfl) ?_
                  replace H := H.pick (L' := [.blk b1 24 [.int .i64 a0.nodes, .int .i64 a0.from_, .int .i64 a0.to_, .slice A_a0_drains a0.drains.length c_a0_drains]]) [1] (by decide) rfl
                  replace R0 := H.ext
                  refine LW.nil (jK93 _ _ ⟨_, ?_, ⟨true, F, rfl, H⟩⟩)
                  exact ⟨rfl, rfl, rfl, rfl, rfl, rfl, trivial⟩
              ·
                replace F := ite_n hp5 F
                have hq5 : r1 = false := raw_f hp5
                refine CW.region ?_
                refine LW.pure rfl rfl (RV.loadA [.int .i64 a0.nodes, .int .i64 a0.from_, .int .i64 a0.to_, .slice A_a0_drains a0.drains.length c_a0_drains] Tk24 rfl (H.blk 1 rfl).cells rfl rfl) ?_
                refine LW.pure rfl rfl (RV.fieldAddr Tf52_0 rfl) ?_
                refine LW.pure rfl rfl (RV.load1 Tk3 rfl ((H.blk 0 rfl).cells.off 0) rfl) ?_
                refine LW.go rfl rfl (OW.call Tc64 rfl (drain_isNode_ok (a0 := a0) (a1 := x1.from_) (h_a0_drains.ext R0) hr1) ?_)
                rintro _ w11 ⟨rfl, E8⟩
                refine ⟨_, rfl, ?_⟩
                replace H := H.grow E8
                replace R0 := H.ext
                refine LW.pure rfl rfl (RV.not rfl) ?_
                refine LW.pure rfl rfl (RV.move rfl) ?_
                refine LW.noB rfl rfl rfl rfl (ne_beq (v := true) (not_t hq5) rfl) ?_
                refine LW.noB rfl rfl rfl rfl (ne_beq (v := true) (not_t hq5) rfl) ?_
                refine LW.noB rfl rfl rfl rfl (ne_beq (v := true) (not_t hq5) rfl) ?_
                refine LW.noB rfl rfl rfl rfl (ne_beq (v := true) (not_t hq5) rfl) ?_
                refine LW.noB rfl rfl rfl rfl (ne_beq (v := true) (not_t hq5) rfl) ?_
                refine LW.pure rfl rfl (RV.pickTB rfl (not_t hq5) rfl) ?_
                refine LW.pure rfl rfl (RV.move rfl) ?_
                refine LW.noB rfl rfl rfl rfl (ne_beq (v := true) rfl rfl) ?_
                refine LW.noB rfl rfl rfl rfl (ne_beq (v := true) rfl rfl) ?_
                refine LW.noB rfl rfl rfl rfl (ne_beq (v := true) rfl rfl) ?_
                refine LW.noB rfl rfl rfl rfl (ne_beq (v := true) rfl rfl) ?_
                refine LW.noB rfl rfl rfl rfl (ne_beq (v := true) rfl rfl) ?_
                refine LW.pure rfl rfl (RV.pickTB rfl rfl rfl) ?_
                refine LW.pure rfl rfl (RV.move rfl) ?_
                refine LW.noB rfl rfl rfl rfl (ne_beq (v := true) rfl rfl) ?_
                refine LW.noB rfl rfl rfl rfl (ne_beq (v := true) rfl rfl) ?_
                refine LW.noB rfl rfl rfl rfl (ne_beq (v := true) rfl rfl) ?_
                refine LW.noB rfl rfl rfl rfl (ne_beq (v := true) rfl rfl) ?_
                refine LW.pure rfl rfl (RV.pickTB rfl rfl rfl) ?_
                replace H := H.pick (L' := [.blk b1 24 [.int .i64 a0.nodes, .int .i64 a0.from_, .int .i64 a0.to_, .slice A_a0_drains a0.drains.length c_a0_drains]]) [1] (by decide) rfl
                replace R0 := H.ext
                refine LW.nil (jK93 _ _ ⟨_, ?_, ⟨true, F, rfl, H⟩⟩)
                exact ⟨rfl, rfl, rfl, rfl, rfl, rfl, trivial⟩
          ·
            replace F := ite_n hp3 F
            have hq3 := dec_f hp3
            refine CW.condF rfl hq3 ?_
            replace H := H.pick (L' := []) [] (by decide) rfl
            replace R0 := H.ext
            refine CW.exit (jK74 _ _ ⟨_, ?_, ⟨F, rfl, H⟩⟩)
            exact ⟨rfl, trivial⟩
  ·
    intro K16 hK16 jK94
    obtain ⟨r4, hr4, F⟩ := bnd_some F
    by_cases hp8 : r4 = true
    ·
      replace F := ite_y hp8 F
      have hq8 : r4 = true := hp8
      obtain ⟨r5, hr5, F⟩ := bnd_some F
      by_cases hp9 : r5 = true
      ·
        replace F := ite_y hp9 F
        have hq9 : r5 = true := hp9
        obtain ⟨r6, hr6, F⟩ := bnd_some F
        by_cases hp10 : r6 = true
        ·
          replace F := ite_y hp10 F
          have hq10 : r6 = true := hp10
          refine CW.region ?_
          refine LW.pure rfl rfl (RV.fieldAddr Tf24_0 rfl) ?_
          refine LW.pure rfl rfl (RV.load1 Tk3 rfl ((H.blk 0 rfl).cells.off 0) rfl) ?_
          refine LW.go rfl rfl (OW.call Tc62 rfl (drain_from_ok (a0 := a0.nodes) (a1 := (2 : Int)) (a2 := (8 : Int)) hr4) ?_)
          rintro _ w12 ⟨rfl, E9⟩
          refine ⟨_, rfl, ?_⟩
          replace H := H.grow E9
          replace R0 := H.ext
          refine LW.pure rfl rfl (RV.not rfl) ?_
          refine LW.pure rfl rfl (RV.move rfl) ?_
          refine LW.pureYB rfl rfl rfl rfl (not_f hq8) (RV.loadA [.int .i64 a0.nodes, .int .i64 a0.from_, .int .i64 a0.to_, .slice A_a0_drains a0.drains.length c_a0_drains] Tk24 rfl (H.blk 0 rfl).cells rfl rfl) ?_
          refine LW.pureYB rfl rfl rfl rfl (not_f hq8) (RV.fieldAddr Tf24_1 rfl) ?_
          refine LW.pureYB rfl rfl rfl rfl (not_f hq8) (RV.load1 Tk3 rfl ((H.blk 0 rfl).cells.off 1) rfl) ?_
          refine LW.yesB rfl rfl rfl rfl (not_f hq8) (OW.call Tc64 rfl (drain_isNode_ok (a0 := a0) (a1 := a0.from_) (h_a0_drains.ext R0) hr5) ?_)
          rintro _ w13 ⟨rfl, E10⟩
          refine ⟨_, rfl, ?_⟩
          replace H := H.grow E10
          replace R0 := H.ext
          refine LW.pureYB rfl rfl rfl rfl (not_f hq8) (RV.not rfl) ?_
          refine LW.pure rfl rfl (RV.pickFB rfl (not_f hq8) rfl) ?_
          refine LW.pure rfl rfl (RV.move rfl) ?_
          refine LW.pureYB rfl rfl rfl rfl (not_f hq9) (RV.loadA [.int .i64 a0.nodes, .int .i64 a0.from_, .int .i64 a0.to_, .slice A_a0_drains a0.drains.length c_a0_drains] Tk24 rfl (H.blk 0 rfl).cells rfl rfl) ?_
          refine LW.pureYB rfl rfl rfl rfl (not_f hq9) (RV.fieldAddr Tf24_2 rfl) ?_
          refine LW.pureYB rfl rfl rfl rfl (not_f hq9) (RV.load1 Tk3 rfl ((H.blk 0 rfl).cells.off 2) rfl) ?_
          refine LW.yesB rfl rfl rfl rfl (not_f hq9) (OW.call Tc64 rfl (drain_isNode_ok (a0 := a0) (a1 := a0.to_) (h_a0_drains.ext R0) hr6) ?_)
          rintro _ w14 ⟨rfl, E11⟩
          refine ⟨_, rfl, ?_⟩
          replace H := H.grow E11
          replace R0 := H.ext
          refine LW.pureYB rfl rfl rfl rfl (not_f hq9) (RV.not rfl) ?_
          refine LW.pure rfl rfl (RV.pickFB rfl (not_f hq9) rfl) ?_
          refine LW.pure rfl rfl (RV.move rfl) ?_
          refine LW.pureYB rfl rfl rfl rfl (not_f hq10) (RV.fieldAddr Tf24_1 rfl) ?_
          refine LW.pureYB rfl rfl rfl rfl (not_f hq10) (RV.load1 Tk3 rfl ((H.blk 0 rfl).cells.off 1) rfl) ?_
          refine LW.pureYB rfl rfl rfl rfl (not_f hq10) (RV.fieldAddr Tf24_2 rfl) ?_
          refine LW.pureYB rfl rfl rfl rfl (not_f hq10) (RV.load1 Tk3 rfl ((H.blk 0 rfl).cells.off 2) rfl) ?_
          refine LW.pureYB rfl rfl rfl rfl (not_f hq10) (RV.eqi rfl rfl) ?_
          refine LW.pure rfl rfl (RV.pickFB rfl (not_f hq10) rfl) ?_
          refine LW.nil (jK94 _ _ ⟨_, ?_, ⟨(decide (a0.from_ = a0.to_)), F, rfl, H⟩⟩)
          exact ⟨rfl, rfl, rfl, trivial⟩
        ·
          replace F := ite_n hp10 F
          have hq10 : r6 = false := raw_f hp10
          refine CW.region ?_
          refine LW.pure rfl rfl (RV.fieldAddr Tf24_0 rfl) ?_
          refine LW.pure rfl rfl (RV.load1 Tk3 rfl ((H.blk 0 rfl).cells.off 0) rfl) ?_
          refine LW.go rfl rfl (OW.call Tc62 rfl (drain_from_ok (a0 := a0.nodes) (a1 := (2 : Int)) (a2 := (8 : Int)) hr4) ?_)
          rintro _ w15 ⟨rfl, E12⟩
          refine ⟨_, rfl, ?_⟩
          replace H := H.grow E12
          replace R0 := H.ext
          refine LW.pure rfl rfl (RV.not rfl) ?_
          refine LW.pure rfl rfl (RV.move rfl) ?_
          refine LW.pureYB rfl rfl rfl rfl (not_f hq8) (RV.loadA [.int .i64 a0.nodes, .int .i64 a0.from_, .int .i64 a0.to_, .slice A_a0_drains a0.drains.length c_a0_drains] Tk24 rfl (H.blk 0 rfl).cells rfl rfl) ?_
          refine LW.pureYB rfl rfl rfl rfl (not_f hq8) (RV.fieldAddr Tf24_1 rfl) ?_
          refine LW.pureYB rfl rfl rfl rfl (not_f hq8) (RV.load1 Tk3 rfl ((H.blk 0 rfl).cells.off 1) rfl) ?_
          refine LW.yesB rfl rfl rfl rfl (not_f hq8) (OW.call Tc64 rfl (drain_isNode_ok (a0 := a0) (a1 := a0.from_) (h_a0_drains.ext R0) hr5) ?_)
          rintro _ w16 ⟨rfl, E13⟩
          refine ⟨_, rfl, ?_⟩
          replace H := H.grow E13
          replace R0 := H.ext
          refine LW.pureYB rfl rfl rfl rfl (not_f hq8) (RV.not rfl) ?_
          refine LW.pure rfl rfl (RV.pickFB rfl (not_f hq8) rfl) ?_
          refine LW.pure rfl rfl (RV.move rfl) ?_
          refine LW.pureYB rfl rfl rfl rfl (not_f hq9) (RV.loadA [.int .i64 a0.nodes, .int .i64 a0.from_, .int .i64 a0.to_, .slice A_a0_drains a0.drains.length c_a0_drains] Tk24 rfl (H.blk 0 rfl).cells rfl rfl) ?_
          refine LW.pureYB rfl rfl rfl rfl (not_f hq9) (RV.fieldAddr Tf24_2 rfl) ?_
          refine LW.pureYB rfl rfl rfl rfl (not_f hq9) (RV.load1 Tk3 rfl ((H.blk 0 rfl).cells.off 2) rfl) ?_
          refine LW.yesB rfl rfl rfl rfl (not_f hq9) (OW.call Tc64 rfl (drain_isNode_ok (a0 := a0) (a1 := a0.to_) (h_a0_drains.ext R0) hr6) ?_)
          rintro _ w17 ⟨rfl, E14⟩
          refine ⟨_, rfl, ?_⟩
          replace H := H.grow E14
          replace R0 := H.ext
          refine LW.pureYB rfl rfl rfl rfl (not_f hq9) (RV.not rfl) ?_
          refine LW.pure rfl rfl (RV.pickFB rfl (not_f hq9) rfl) ?_
          refine LW.pure rfl rfl (RV.move rfl) ?_
          refine LW.noB rfl rfl rfl rfl (ne_beq (v := true) (not_t hq10) rfl) ?_
          refine LW.noB rfl rfl rfl rfl (ne_beq (v := true) (not_t hq10) rfl) ?_
          refine LW.noB rfl rfl rfl rfl (ne_beq (v := true) (not_t hq10) rfl) ?_
          refine LW.noB rfl rfl rfl rfl (ne_beq (v := true) (not_t hq10) rfl) ?_
          refine LW.noB rfl rfl rfl rfl (ne_beq (v := true) (not_t hq10) rfl) ?_
          refine LW.pure rfl rfl (RV.pickTB rfl (not_t hq10) rfl) ?_
          refine LW.nil (jK94 _ _ ⟨_, ?_, ⟨true, F, rfl, H⟩⟩)
          exact ⟨rfl, rfl, rfl, trivial⟩
      ·
        replace F := ite_n hp9 F
        have hq9 : r5 = false := raw_f hp9
        refine CW.region ?_
        refine LW.pure rfl rfl (RV.fieldAddr Tf24_0 rfl) ?_
        refine LW.pure rfl rfl (RV.load1 Tk3 rfl ((H.blk 0 rfl).cells.off 0) rfl) ?_
        refine LW.go rfl rfl (OW.call Tc62 rfl (drain_from_ok (a0 := a0.nodes) (a1 := (2 : Int)) (a2 := (8 : Int)) hr4) ?_)
        rintro _ w18 ⟨rfl, E15⟩
        refine ⟨_, rfl, ?_⟩
        replace H := H.grow E15
        replace R0 := H.ext
        refine LW.pure rfl rfl (RV.not rfl) ?_
        refine LW.pure rfl rfl (RV.move rfl) ?_
        refine LW.pureYB rfl rfl rfl rfl (not_f hq8) (RV.loadA [.int .i64 a0.nodes, .int .i64 a0.from_, .int .i64 a0.to_, .slice A_a0_drains a0.drains.length c_a0_drains] Tk24 rfl (H.blk 0 rfl).cells rfl rfl) ?_
        refine LW.pureYB rfl rfl rfl rfl (not_f hq8) (RV.fieldAddr Tf24_1 rfl) ?_
        refine LW.pureYB rfl rfl rfl rfl (not_f hq8) (RV.load1 Tk3 rfl ((H.blk 0 rfl).cells.off 1) rfl) ?_
        refine LW.yesB rfl rfl rfl rfl (not_f hq8) (OW.call Tc64 rfl (drain_isNode_ok (a0 := a0) (a1 := a0.from_) (h_a0_drains.ext R0) hr5) ?_)
        rintro _ w19 ⟨rfl, E16⟩
        refine ⟨_, rfl, ?_⟩
        replace H := H.grow E16
        replace R0 := H.ext
        refine LW.pureYB rfl rfl rfl rfl (not_f hq8) (RV.not rfl) ?_
        refine LW.pure rfl rfl (RV.pickFB rfl (not_f hq8) rfl) ?_
        refine LW.pure rfl rfl (RV.move rfl) ?_
        refine LW.noB rfl rfl rfl rfl (ne_beq (v := true) (not_t hq9) rfl) ?_
        refine LW.noB rfl rfl rfl rfl (ne_beq (v := true) (not_t hq9) rfl) ?_
        refine LW.noB rfl rfl rfl rfl (ne_beq (v := true) (not_t hq9) rfl) ?_
        refine LW.noB rfl rfl rfl rfl (ne_beq (v := true) (not_t hq9) rfl) ?_
        refine LW.noB rfl rfl rfl rfl (ne_beq (v := true) (not_t hq9) rfl) ?_
        refine LW.pure rfl rfl (RV.pickTB rfl (not_t hq9) rfl) ?_
        refine LW.pure rfl rfl (RV.move rfl) ?_
        refine LW.noB rfl rfl rfl rfl (ne_beq (v := true) rfl rfl) ?_
        refine LW.noB rfl rfl rfl rfl (ne_beq (v := true) rfl rfl) ?_
        refine LW.noB rfl rfl rfl rfl (ne_beq (v := true) rfl rfl) ?_
        refine LW.noB rfl rfl rfl rfl (ne_beq (v := true) rfl rfl) ?_
        refine LW.noB rfl rfl rfl rfl (ne_beq (v := true) rfl rfl) ?_
        refine LW.pure rfl rfl (RV.pickTB rfl rfl rfl) ?_
        refine LW.nil (jK94 _ _ ⟨_, ?_, ⟨true, F, rfl, H⟩⟩)
        exact ⟨rfl, rfl, rfl, trivial⟩
    ·
      replace F := ite_n hp8 F
      have hq8 : r4 = false := raw_f hp8
      refine CW.region ?_
      refine LW.pure rfl rfl (RV.fieldAddr Tf24_0 rfl) ?_
      refine LW.pure rfl rfl (RV.load1 Tk3 rfl ((H.blk 0 rfl).cells.off 0) rfl) ?_
      refine LW.go rfl rfl (OW.call Tc62 rfl (drain_from_ok (a0 := a0.nodes) (a1 := (2 : Int)) (a2 := (8 : Int)) hr4) ?_)
      rintro _ w20 ⟨rfl, E17⟩
      refine ⟨_, rfl, ?_⟩
      replace H := H.grow E17
      replace R0 := H.ext
      refine LW.pure rfl rfl (RV.not rfl) ?_
      refine LW.pure rfl rfl (RV.move rfl) ?_
      refine LW.noB rfl rfl rfl rfl (ne_beq (v := true) (not_t hq8) rfl) ?_
      refine LW.noB rfl rfl rfl rfl (ne_beq (v := true) (not_t hq8) rfl) ?_
      refine LW.noB rfl rfl rfl rfl (ne_beq (v := true) (not_t hq8) rfl) ?_
      refine LW.noB rfl rfl rfl rfl (ne_beq (v := true) (not_t hq8) rfl) ?_
      refine LW.noB rfl rfl rfl rfl (ne_beq (v := true) (not_t hq8) rfl) ?_
      refine LW.pure rfl rfl (RV.pickTB rfl (not_t hq8) rfl) ?_
      refine LW.pure rfl rfl (RV.move rfl) ?_
      refine LW.noB rfl rfl rfl rfl (ne_beq (v := true) rfl rfl) ?_
      refine LW.noB rfl rfl rfl rfl (ne_beq (v := true) rfl rfl) ?_
      refine LW.noB rfl rfl rfl rfl (ne_beq (v := true) rfl rfl) ?_
      refine LW.noB rfl rfl rfl rfl (ne_beq (v := true) rfl rfl) ?_
      refine LW.noB rfl rfl rfl rfl (ne_beq (v := true) rfl rfl) ?_
      refine LW.pure rfl rfl (RV.pickTB rfl rfl rfl) ?_
      refine LW.pure rfl rfl (RV.move rfl) ?_
      refine LW.noB rfl rfl rfl rfl (ne_beq (v := true) rfl rfl) ?_
      refine LW.noB rfl rfl rfl rfl (ne_beq (v := true) rfl rfl) ?_
      refine LW.noB rfl rfl rfl rfl (ne_beq (v := true) rfl rfl) ?_
      refine LW.noB rfl rfl rfl rfl (ne_beq (v := true) rfl rfl) ?_
      refine LW.noB rfl rfl rfl rfl (ne_beq (v := true) rfl rfl) ?_
      refine LW.pure rfl rfl (RV.pickTB rfl rfl rfl) ?_
      refine LW.nil (jK94 _ _ ⟨_, ?_, ⟨true, F, rfl, H⟩⟩)
      exact ⟨rfl, rfl, rfl, trivial⟩
set_option maxRecDepth 20000 in
set_option maxHeartbeats 1000000 in
theorem drain_run_ok {a0 : Net} {A_a0_drains : Option Addr} {c_a0_drains : Nat} {w : World} {res : (List Left)} (h_a0_drains : Sl w A_a0_drains c_a0_drains 3 (a0.drains.map encDrain)) (F : drain_run a0 = some res) : Calls Try.prog 59 #[.agg #[.int .i64 a0.nodes, .int .i64 a0.from_, .int .i64 a0.to_, .slice A_a0_drains a0.drains.length c_a0_drains]] w (fun e w' => ∃ (A1 : Option Addr) (c1 : Nat), e = .returned (.slice A1 res.length c1) ∧ Hp w w' [.own A1 c1 87 4 (List.map encLeft res)]) := by
  refine calls_of_cw (args := [.agg #[.int .i64 a0.nodes, .int .i64 a0.from_, .int .i64 a0.to_, .slice A_a0_drains a0.drains.length c_a0_drains]]) Try.func59 rfl rfl rfl rfl ?_
  have H := Hp.start w
  have R0 := H.ext
  unfold drain_run at F
  refine CW.seq fun K1 hK1 => ?_
  refine CW.region ?_
  refine LW.go rfl rfl (OW.box rfl fun b1 w1 N1 => ?_)
  replace H := H.new N1 N1.blk
  replace R0 := H.ext
  refine LW.pure rfl rfl (RV.assign rfl) ?_
  refine LW.nil (hK1 _ _ ?_)
  refine CW.seq fun K2 hK2 => ?_
  refine CW.region ?_
  refine LW.pure rfl rfl (RV.assign rfl) ?_
  refine LW.nil (hK2 _ _ ?_)
  refine CW.seqJ (fun ρ wl1 => (∃ (l4 : List Left) (Al4 : Option Addr) (cl4 : Nat), drain_run_k5 a0 l4 = some res ∧ ρ = [(1, .pointer (some (⟨b1, 0, none⟩))), (2, .slice none 0 0), (3, .slice Al4 l4.length cl4)] ∧ Hp w wl1 [.own Al4 cl4 87 4 (List.map encLeft l4), .blk b1 24 [.int .i64 a0.nodes, .int .i64 a0.from_, .int .i64 a0.to_, .slice A_a0_drains a0.drains.length c_a0_drains]])) ?_ ?_
  ·
    rintro _ wl1 ⟨l4, Al4, cl4, F, rfl, H⟩
    have R0 := H.ext
    unfold drain_run_k5 at F
    refine CW.block ?_
    refine CW.loop (fun meas ρ wl2 => ∃ (l3 : List Left), drain_run_L3 a0 meas l3 = some res ∧ ρ = [(1, .pointer (some (⟨b1, 0, none⟩))), (2, .slice none 0 0), (3, .slice Al4 l3.length cl4)] ∧ Hp w wl2 [.own Al4 cl4 87 4 (List.map encLeft l3), .blk b1 24 [.int .i64 a0.nodes, .int .i64 a0.from_, .int .i64 a0.to_, .slice A_a0_drains a0.drains.length c_a0_drains]]) FU ⟨_, ?_, l4, F, rfl, H⟩ ?_
    · exact ⟨rfl, rfl, (look_slice rfl (by first | rfl | (simp; done) | (simp; omega))), trivial⟩
    rintro mk1 _ wl2 ⟨l3, F, rfl, H⟩
    have R0 := H.ext
    replace F := drain_run_L3_s F
    obtain ⟨mk1, rfl, F⟩ := F
    generalize hrec2 : drain_run_L3 a0 mk1 = rec2 at F
    unfold drain_run_B3 at F
    refine CW.block ?_
    refine CW.seq fun K3 hK3 => ?_
    obtain ⟨r2, hr2, F⟩ := bnd_some F
    refine CW.region ?_
    refine LW.pure rfl rfl (RV.move rfl) ?_
    refine LW.pure rfl rfl (RV.fieldAddr Tf24_1 rfl) ?_
    refine LW.pure rfl rfl (RV.load1 Tk3 rfl ((H.blk 1 rfl).cells.off 1) rfl) ?_
    refine LW.pure rfl rfl (RV.fieldAddr Tf24_2 rfl) ?_
    refine LW.pure rfl rfl (RV.load1 Tk3 rfl ((H.blk 1 rfl).cells.off 2) rfl) ?_
    refine LW.go rfl rfl (OW.call Tc71 rfl (drain_search_ok (a0 := l3) (a1 := a0.from_) (a2 := a0.to_) (H.own 0 rfl).sl hr2) ?_)
    rintro _ w2 ⟨A52_0, c52_0, rfl, hnl52_, E1⟩
    refine ⟨_, rfl, ?_⟩
    replace H : Hp w w2 [.own A52_0 c52_0 3 1 (List.map encN r2), .own Al4 cl4 87 4 (List.map encLeft l3), .blk b1 24 [.int .i64 a0.nodes, .int .i64 a0.from_, .int .i64 a0.to_, .slice A_a0_drains a0.drains.length c_a0_drains]] := H.append E1
    replace R0 := H.ext
    refine LW.pure rfl rfl (RV.assign rfl) ?_
    refine LW.nil (hK3 _ _ ?_)
    refine CW.seq fun K4 hK4 => ?_
    refine CW.seq fun K5 hK5 => ?_
    refine CW.region ?_
    refine LW.pure rfl rfl (RV.move rfl) ?_
    refine LW.pure rfl rfl (RV.eqnilL (l := r2) Ts30 rfl rfl hnl52_) ?_
    refine LW.nil (hK5 _ _ ?_)
    by_cases hp1 : r2 = []
    ·
      replace F := ite_y hp1 F
      have hq1 := dec_t hp1
      refine CW.condT rfl hq1 ?_
      refine CW.seq fun K6 hK6 => ?_
      refine CW.region ?_
      refine LW.pure rfl rfl (RV.move rfl) ?_
      refine LW.pure rfl rfl (RV.assign rfl) ?_
      refine LW.nil (hK6 _ _ ?_)
      refine CW.ret ?_
      obtain rfl := Option.some.inj F
      refine ⟨_, (ResOK.one rfl), ?_⟩
      replace H := H.pick (L' := [.own Al4 cl4 87 4 (List.map encLeft l3)]) [1] (by decide) rfl
      replace R0 := H.ext
      exact ⟨Al4, cl4, (by first | rfl | (simp; done) | (simp; omega)), H⟩
    ·
      replace F := ite_n hp1 F
      have hq1 := dec_f hp1
      refine CW.condF rfl hq1 ?_
      refine CW.skip (hK4 _ _ ?_)
      refine CW.seq fun K7 hK7 => ?_
      refine CW.region ?_
      refine LW.pure rfl rfl (RV.fieldAddr Tf24_1 rfl) ?_
      refine LW.pure rfl rfl (RV.load1 Tk3 rfl ((H.blk 2 rfl).cells.off 1) rfl) ?_
      refine LW.pure rfl rfl (RV.assign rfl) ?_
      refine LW.pure rfl rfl (RV.assign rfl) ?_
      refine LW.nil (hK7 _ _ ?_)
      refine CW.seqJ (fun ρ wl3 => (∃ (t8_1 : Int), drain_run_k2 a0 l3 rec2 r2 t8_1 = some res ∧ ρ = [(1, .pointer (some (⟨b1, 0, none⟩))), (2, .slice none 0 0), (3, .slice Al4 l3.length cl4), (6, .slice A52_0 r2.length c52_0), (8, .int .i64 t8_1)] ∧ Hp w wl3 [.own Al4 cl4 87 4 (List.map encLeft l3), .own A52_0 c52_0 3 1 (List.map encN r2), .blk b1 24 [.int .i64 a0.nodes, .int .i64 a0.from_, .int .i64 a0.to_, .slice A_a0_drains a0.drains.length c_a0_drains]])) ?_ ?_
      ·
        rintro _ wl3 ⟨t8_1, F, rfl, H⟩
        have R0 := H.ext
        unfold drain_run_k2 at F
        refine CW.seq fun K8 hK8 => ?_
        refine CW.region ?_
        refine LW.pure rfl rfl (RV.fieldAddr Tf24_1 rfl) ?_
        refine LW.pure rfl rfl (RV.load1 Tk3 rfl ((H.blk 2 rfl).cells.off 1) rfl) ?_
        refine LW.pure rfl rfl (RV.assign rfl) ?_
        refine LW.nil (hK8 _ _ ?_)
        refine CW.seq fun K9 hK9 => ?_
        refine CW.region ?_
        refine LW.pure rfl rfl (RV.move rfl) ?_
        refine LW.pure rfl rfl (RV.len Ts30 rfl) ?_
        refine LW.pure rfl rfl (RV.move rfl) ?_
        refine LW.nil (hK9 _ _ ?_)
        refine CW.block ?_
        refine CW.loop (fun meas ρ wl4 => ∃ (t7_1 : Int) (t70_1 : Int) (l2 : List Left), drain_run_L1 rec2 r2 t8_1 meas t7_1 t70_1 l2 = some res ∧ ρ = [(1, .pointer (some (⟨b1, 0, none⟩))), (2, .slice none 0 0), (3, .slice Al4 l2.length cl4), (7, .int .i64 t7_1), (8, .int .i64 t8_1), (68, .slice A52_0 r2.length c52_0), (69, .int .i64 ((r2.length : Int))), (70, .int .i64 t70_1)] ∧ Hp w wl4 [.own Al4 cl4 87 4 (List.map encLeft l2), .own A52_0 c52_0 3 1 (List.map encN r2), .blk b1 24 [.int .i64 a0.nodes, .int .i64 a0.from_, .int .i64 a0.to_, .slice A_a0_drains a0.drains.length c_a0_drains]]) FU ⟨_, ?_, a0.from_, ((0 : Int)), l3, F, rfl, H⟩ ?_
        · exact ⟨rfl, rfl, (look_slice rfl (by first | rfl | (simp; done) | (simp; omega))), rfl, rfl, (look_slice rfl (by first | rfl | (simp; done) | (simp; omega))), rfl, rfl, trivial⟩
        rintro mk2 _ wl4 ⟨t7_1, t70_1, l2, F, rfl, H⟩
        have R0 := H.ext
        replace F := drain_run_L1_s F
        obtain ⟨mk2, rfl, F⟩ := F
        generalize hrec1 : drain_run_L1 rec2 r2 t8_1 mk2 = rec1 at F
        unfold drain_run_B1 at F
        refine CW.seq fun K10 hK10 => ?_
        refine CW.region ?_
        refine LW.pure rfl rfl (RV.lss rfl rfl) ?_
        refine LW.nil (hK10 _ _ ?_)
        refine CW.seq fun K11 hK11 => ?_
        by_cases hp2 : t70_1 < ((r2.length : Int))
        ·
          replace F := ite_y hp2 F
          have hq2 := dec_t hp2
          refine CW.condT rfl hq2 ?_
          refine CW.skip (hK11 _ _ ?_)
          refine CW.seq fun K12 hK12 => ?_
          refine CW.block ?_
          refine CW.seq fun K13 hK13 => ?_
          obtain ⟨x1, hbx1, hx1, F⟩ := ix_some F
          refine CW.region ?_
          refine LW.pure rfl rfl (RV.indexAddr Ts30 rfl rfl hbx1 ((H.own 1 rfl).sl.addr_ hx1)) ?_
          refine LW.pure rfl rfl (RV.load1 Tk3 rfl ((H.own 1 rfl).sl.at_ hx1) rfl) ?_
          refine LW.pure rfl rfl (RV.assign rfl) ?_
          refine LW.nil (hK13 _ _ ?_)
          refine CW.seq fun K14 hK14 => ?_
          obtain ⟨x2, hbx2, hx2, F⟩ := ix_some F
          obtain ⟨r1, hr1, F⟩ := bnd_some F
          refine CW.region ?_
          refine LW.pure rfl rfl (RV.move rfl) ?_
          refine LW.pure rfl rfl (RV.move rfl) ?_
          refine LW.pure rfl rfl (RV.indexAddr Ts63 rfl rfl hbx2 ((H.own 0 rfl).sl.addr_ hx2)) ?_
          refine LW.pure rfl rfl (RV.loadA [.int .i64 x2.drain.from_, .int .i64 x2.drain.to_, .int .i64 x2.drain.width, .int .i64 x2.runs] Tk87 rfl ((H.own 0 rfl).sl.at_ hx2) rfl rfl) ?_
          refine LW.pure rfl rfl (RV.move rfl) ?_
          refine LW.go rfl rfl (OW.call Tc90 rfl (drain_left_room_ok (a0 := x2) (a1 := t7_1) hr1) ?_)
          rintro _ w3 ⟨rfl, E2⟩
          refine ⟨_, rfl, ?_⟩
          replace H := H.grow E2
          replace R0 := H.ext
          refine LW.pure rfl rfl (RV.move rfl) ?_
          refine LW.pure rfl rfl (RV.extract rfl rfl) ?_
          refine LW.pure rfl rfl (RV.extract rfl rfl) ?_
          refine LW.pure rfl rfl (RV.assign rfl) ?_
          refine LW.pure rfl rfl (RV.assign rfl) ?_
          refine LW.nil (hK14 _ _ ?_)
          refine CW.seqJ (fun ρ wl5 => (∃ (l1 : List Left), drain_run_k1 t70_1 rec1 r1 l1 = some res ∧ ρ = [(1, .pointer (some (⟨b1, 0, none⟩))), (2, .slice none 0 0), (3, .slice Al4 l1.length cl4), (7, .int .i64 t7_1), (8, .int .i64 t8_1), (15, .int .i64 r1.1), (68, .slice A52_0 r2.length c52_0), (69, .int .i64 ((r2.length : Int))), (70, .int .i64 t70_1)] ∧ Hp w wl5 [.own Al4 cl4 87 4 (List.map encLeft l1), .own A52_0 c52_0 3 1 (List.map encN r2), .blk b1 24 [.int .i64 a0.nodes, .int .i64 a0.from_, .int .i64 a0.to_, .slice A_a0_drains a0.drains.length c_a0_drains]])) ?_ ?_
          ·
            rintro _ wl5 ⟨l1, F, rfl, H⟩
            have R0 := H.ext
            unfold drain_run_k1 at F
            refine CW.region ?_
            refine LW.pure rfl rfl (RV.move rfl) ?_
            refine LW.pure rfl rfl (RV.assign rfl) ?_
            refine LW.nil (hK12 _ _ ?_)
            obtain ⟨hg1, F⟩ := gd_some F
            refine CW.region ?_
            refine LW.pure rfl rfl (RV.add rfl rfl hg1) ?_
            refine LW.pure rfl rfl (RV.move rfl) ?_
            refine LW.nil ?_
            subst hrec1
            refine ⟨mk2, Nat.lt_succ_self _, _, ?_, r1.1, (t70_1 + 1), l1, F, rfl, H⟩
            exact ⟨rfl, rfl, (look_slice rfl (by first | rfl | (simp; done) | (simp; omega))), rfl, rfl, (look_slice rfl (by first | rfl | (simp; done) | (simp; omega))), rfl, rfl, trivial⟩
          ·
            intro K15 hK15 jK509
            refine CW.seq fun K16 hK16 => ?_
            obtain ⟨x3, hbx3, hx3, F⟩ := ix_some F
            refine CW.region ?_
            refine LW.pure rfl rfl (RV.move rfl) ?_
            refine LW.pure rfl rfl (RV.move rfl) ?_
            refine LW.pure rfl rfl (RV.indexAddr Ts63 rfl rfl hbx3 ((H.own 0 rfl).sl.addr_ hx3)) ?_
            refine LW.pure rfl rfl (RV.fieldAddr Tf87_0 rfl) ?_
            refine LW.pure rfl rfl (RV.fieldAddr Tf52_0 rfl) ?_
            refine LW.pure rfl rfl (RV.load1 Tk3 rfl ((((H.own 0 rfl).sl.at_ hx3).off 0).off 0) rfl) ?_
            refine LW.pure rfl rfl (RV.move rfl) ?_
            refine LW.pure rfl rfl (RV.eqi rfl rfl) ?_
            refine LW.nil (hK16 _ _ ?_)
            by_cases hp3 : x3.drain.from_ = t7_1
            ·
              replace F := ite_y hp3 F
              have hq3 := dec_t hp3
              refine CW.condT rfl hq3 ?_
              obtain ⟨x4, hbx4, hx4, F⟩ := ix_some F
              obtain ⟨hg2, F⟩ := gd_some F
              obtain ⟨x5, hbx5, hx5, F⟩ := ix_some F
              refine CW.region ?_
              refine LW.pure rfl rfl (RV.move rfl) ?_
              refine LW.pure rfl rfl (RV.move rfl) ?_
              refine LW.pure rfl rfl (RV.indexAddr Ts63 rfl rfl hbx4 ((H.own 0 rfl).sl.addr_ hx4)) ?_
              refine LW.pure rfl rfl (RV.fieldAddr Tf87_1 rfl) ?_
              refine LW.pure rfl rfl (RV.load1 Tk3 rfl (((H.own 0 rfl).sl.at_ hx4).off 3) rfl) ?_
              refine LW.pure rfl rfl (RV.move rfl) ?_
              refine LW.pure rfl rfl (RV.add rfl rfl hg2) ?_
              refine LW.pure rfl rfl (RV.indexAddr Ts63 rfl rfl hbx5 ((H.own 0 rfl).sl.addr_ hx5)) ?_
              refine LW.pure rfl rfl (RV.fieldAddr Tf87_1 rfl) ?_
              refine LW.go rfl rfl (OW.storeO (enc := encLeft) (vs := [.int .i64 (x4.runs + t8_1)]) 3 ((⟨x5.drain, x4.runs + t8_1⟩ : Left)) Tk3 rfl rfl (H.own 0 rfl) (fun _ => rfl) rfl hx5 rfl rfl (by decide) rfl rfl fun w4 M1 O1 => ?_)
              replace H : Hp w w4 [.own Al4 cl4 87 4 (List.map encLeft ((l2.set (Int.toNat x1) ((⟨x5.drain, x4.runs + t8_1⟩ : Left))))), .own A52_0 c52_0 3 1 (List.map encN r2), .blk b1 24 [.int .i64 a0.nodes, .int .i64 a0.from_, .int .i64 a0.to_, .slice A_a0_drains a0.drains.length c_a0_drains]] := H.mod 0 rfl M1 O1 (.inl rfl)
              replace R0 := H.ext
              refine LW.nil (jK509 _ _ ⟨_, ?_, ⟨((l2.set (Int.toNat x1) ((⟨x5.drain, x4.runs + t8_1⟩ : Left)))), F, rfl, H⟩⟩)
              exact ⟨rfl, rfl, (look_slice rfl (by first | rfl | (simp; done) | (simp; omega))), rfl, rfl, rfl, (look_slice rfl (by first | rfl | (simp; done) | (simp; omega))), rfl, rfl, trivial⟩
            ·
              replace F := ite_n hp3 F
              have hq3 := dec_f hp3
              refine CW.condF rfl hq3 ?_
              obtain ⟨x6, hbx6, hx6, F⟩ := ix_some F
              obtain ⟨hg3, F⟩ := gd_some F
              obtain ⟨x7, hbx7, hx7, F⟩ := ix_some F
              refine CW.region ?_
              refine LW.pure rfl rfl (RV.move rfl) ?_
              refine LW.pure rfl rfl (RV.move rfl) ?_
              refine LW.pure rfl rfl (RV.indexAddr Ts63 rfl rfl hbx6 ((H.own 0 rfl).sl.addr_ hx6)) ?_
              refine LW.pure rfl rfl (RV.fieldAddr Tf87_1 rfl) ?_
              refine LW.pure rfl rfl (RV.load1 Tk3 rfl (((H.own 0 rfl).sl.at_ hx6).off 3) rfl) ?_
              refine LW.pure rfl rfl (RV.move rfl) ?_
              refine LW.pure rfl rfl (RV.sub rfl rfl hg3) ?_
              refine LW.pure rfl rfl (RV.indexAddr Ts63 rfl rfl hbx7 ((H.own 0 rfl).sl.addr_ hx7)) ?_
              refine LW.pure rfl rfl (RV.fieldAddr Tf87_1 rfl) ?_
              refine LW.go rfl rfl (OW.storeO (enc := encLeft) (vs := [.int .i64 (x6.runs - t8_1)]) 3 ((⟨x7.drain, x6.runs - t8_1⟩ : Left)) Tk3 rfl rfl (H.own 0 rfl) (fun _ => rfl) rfl hx7 rfl rfl (by decide) rfl rfl fun w5 M2 O2 => ?_)
              replace H : Hp w w5 [.own Al4 cl4 87 4 (List.map encLeft ((l2.set (Int.toNat x1) ((⟨x7.drain, x6.runs - t8_1⟩ : Left))))), .own A52_0 c52_0 3 1 (List.map encN r2), .blk b1 24 [.int .i64 a0.nodes, .int .i64 a0.from_, .int .i64 a0.to_, .slice A_a0_drains a0.drains.length c_a0_drains]] := H.mod 0 rfl M2 O2 (.inl rfl)
              replace R0 := H.ext
              refine LW.nil (jK509 _ _ ⟨_, ?_, ⟨((l2.set (Int.toNat x1) ((⟨x7.drain, x6.runs - t8_1⟩ : Left)))), F, rfl, H⟩⟩)
              exact ⟨rfl, rfl, (look_slice rfl (by first | rfl | (simp; done) | (simp; omega))), rfl, rfl, rfl, (look_slice rfl (by first | rfl | (simp; done) | (simp; omega))), rfl, rfl, trivial⟩
        ·
          replace F := ite_n hp2 F
          have hq2 := dec_f hp2
          refine CW.condF rfl hq2 ?_
          refine CW.exit ?_
          replace H := H.pick (L' := [.own Al4 cl4 87 4 (List.map encLeft l2), .blk b1 24 [.int .i64 a0.nodes, .int .i64 a0.from_, .int .i64 a0.to_, .slice A_a0_drains a0.drains.length c_a0_drains]]) [0, 2] (by decide) rfl
          replace R0 := H.ext
          subst hrec2
          refine ⟨mk1, Nat.lt_succ_self _, _, ?_, l2, F, rfl, H⟩
          exact ⟨rfl, rfl, (look_slice rfl (by first | rfl | (simp; done) | (simp; omega))), trivial⟩
      ·
        intro K17 hK17 jK511
        refine CW.seq fun K18 hK18 => ?_
        refine CW.region ?_
        refine LW.pure rfl rfl (RV.move rfl) ?_
        refine LW.pure rfl rfl (RV.len Ts30 rfl) ?_
        refine LW.pure rfl rfl (RV.move rfl) ?_
        refine LW.nil (hK18 _ _ ?_)
        refine CW.block ?_
        replace H := H.pick (L' := [.own Al4 cl4 87 4 (List.map encLeft l3), .own A52_0 c52_0 3 1 (List.map encN r2), .blk b1 24 [.int .i64 a0.nodes, .int .i64 a0.from_, .int .i64 a0.to_, .slice A_a0_drains a0.drains.length c_a0_drains]]) [1, 0, 2] (by decide) rfl
        replace R0 := H.ext
        refine CW.loop (fun meas ρ wl6 => ∃ (t7_2 : Int) (t8_3 : Int) (t43_1 : Int), drain_run_L2 a0 l3 rec2 r2 meas t7_2 t8_3 t43_1 = some res ∧ ρ = [(1, .pointer (some (⟨b1, 0, none⟩))), (2, .slice none 0 0), (3, .slice Al4 l3.length cl4), (6, .slice A52_0 r2.length c52_0), (7, .int .i64 t7_2), (8, .int .i64 t8_3), (41, .slice A52_0 r2.length c52_0), (42, .int .i64 ((r2.length : Int))), (43, .int .i64 t43_1)] ∧ Hp w wl6 [.own Al4 cl4 87 4 (List.map encLeft l3), .own A52_0 c52_0 3 1 (List.map encN r2), .blk b1 24 [.int .i64 a0.nodes, .int .i64 a0.from_, .int .i64 a0.to_, .slice A_a0_drains a0.drains.length c_a0_drains]]) FU ⟨_, ?_, a0.from_, ((-1 : Int)), ((0 : Int)), F, rfl, H⟩ ?_
        · exact ⟨rfl, rfl, (look_slice rfl (by first | rfl | (simp; done) | (simp; omega))), (look_slice rfl (by first | rfl | (simp; done) | (simp; omega))), rfl, rfl, (look_slice rfl (by first | rfl | (simp; done) | (simp; omega))), rfl, rfl, trivial⟩
        rintro mk3 _ wl6 ⟨t7_2, t8_3, t43_1, F, rfl, H⟩
        have R0 := H.ext
        replace F := drain_run_L2_s F
        obtain ⟨mk3, rfl, F⟩ := F
        generalize hrec3 : drain_run_L2 a0 l3 rec2 r2 mk3 = rec3 at F
        unfold drain_run_B2 at F
        refine CW.seq fun K19 hK19 => ?_
        refine CW.region ?_
        refine LW.pure rfl rfl (RV.lss rfl rfl) ?_
        refine LW.nil (hK19 _ _ ?_)
        refine CW.seq fun K20 hK20 => ?_
        by_cases hp4 : t43_1 < ((r2.length : Int))
        ·
          replace F := ite_y hp4 F
          have hq4 := dec_t hp4
          refine CW.condT rfl hq4 ?_
          refine CW.skip (hK20 _ _ ?_)
          refine CW.seq fun K21 hK21 => ?_
          refine CW.block ?_
          refine CW.seq fun K22 hK22 => ?_
          obtain ⟨x8, hbx8, hx8, F⟩ := ix_some F
          refine CW.region ?_
          refine LW.pure rfl rfl (RV.indexAddr Ts30 rfl rfl hbx8 ((H.own 1 rfl).sl.addr_ hx8)) ?_
          refine LW.pure rfl rfl (RV.load1 Tk3 rfl ((H.own 1 rfl).sl.at_ hx8) rfl) ?_
          refine LW.pure rfl rfl (RV.assign rfl) ?_
          refine LW.nil (hK22 _ _ ?_)
          refine CW.seq fun K23 hK23 => ?_
          obtain ⟨x9, hbx9, hx9, F⟩ := ix_some F
          obtain ⟨r3, hr3, F⟩ := bnd_some F
          refine CW.region ?_
          refine LW.pure rfl rfl (RV.move rfl) ?_
          refine LW.pure rfl rfl (RV.move rfl) ?_
          refine LW.pure rfl rfl (RV.indexAddr Ts63 rfl rfl hbx9 ((H.own 0 rfl).sl.addr_ hx9)) ?_
          refine LW.pure rfl rfl (RV.loadA [.int .i64 x9.drain.from_, .int .i64 x9.drain.to_, .int .i64 x9.drain.width, .int .i64 x9.runs] Tk87 rfl ((H.own 0 rfl).sl.at_ hx9) rfl rfl) ?_
          refine LW.pure rfl rfl (RV.move rfl) ?_
          refine LW.go rfl rfl (OW.call Tc90 rfl (drain_left_room_ok (a0 := x9) (a1 := t7_2) hr3) ?_)
          rintro _ w6 ⟨rfl, E3⟩
          refine ⟨_, rfl, ?_⟩
          replace H := H.grow E3
          replace R0 := H.ext
          refine LW.pure rfl rfl (RV.move rfl) ?_
          refine LW.pure rfl rfl (RV.extract rfl rfl) ?_
          refine LW.pure rfl rfl (RV.extract rfl rfl) ?_
          refine LW.pure rfl rfl (RV.assign rfl) ?_
          refine LW.pure rfl rfl (RV.assign rfl) ?_
          refine LW.nil (hK23 _ _ ?_)
          refine CW.seqJ (fun ρ wl7 => (∃ (t8_2 : Int), drain_run_k3 t43_1 rec3 r3 t8_2 = some res ∧ ρ = [(1, .pointer (some (⟨b1, 0, none⟩))), (2, .slice none 0 0), (3, .slice Al4 l3.length cl4), (6, .slice A52_0 r2.length c52_0), (7, .int .i64 t7_2), (8, .int .i64 t8_2), (11, .int .i64 r3.1), (41, .slice A52_0 r2.length c52_0), (42, .int .i64 ((r2.length : Int))), (43, .int .i64 t43_1)] ∧ Hp w wl7 [.own Al4 cl4 87 4 (List.map encLeft l3), .own A52_0 c52_0 3 1 (List.map encN r2), .blk b1 24 [.int .i64 a0.nodes, .int .i64 a0.from_, .int .i64 a0.to_, .slice A_a0_drains a0.drains.length c_a0_drains]])) ?_ ?_
          ·
            rintro _ wl7 ⟨t8_2, F, rfl, H⟩
            have R0 := H.ext
            unfold drain_run_k3 at F
            refine CW.region ?_
            refine LW.pure rfl rfl (RV.move rfl) ?_
            refine LW.pure rfl rfl (RV.assign rfl) ?_
            refine LW.nil (hK21 _ _ ?_)
            obtain ⟨hg4, F⟩ := gd_some F
            refine CW.region ?_
            refine LW.pure rfl rfl (RV.add rfl rfl hg4) ?_
            refine LW.pure rfl rfl (RV.move rfl) ?_
            refine LW.nil ?_
            subst hrec3
            refine ⟨mk3, Nat.lt_succ_self _, _, ?_, r3.1, t8_2, (t43_1 + 1), F, rfl, H⟩
            exact ⟨rfl, rfl, (look_slice rfl (by first | rfl | (simp; done) | (simp; omega))), (look_slice rfl (by first | rfl | (simp; done) | (simp; omega))), rfl, rfl, (look_slice rfl (by first | rfl | (simp; done) | (simp; omega))), rfl, rfl, trivial⟩
          ·
            intro K24 hK24 jK535
            refine CW.seqJ (fun ρ wl8 => (∃ (t62_1 : Bool), drain_run_k4 t8_3 t43_1 rec3 r3 t62_1 = some res ∧ ρ = [(1, .pointer (some (⟨b1, 0, none⟩))), (2, .slice none 0 0), (3, .slice Al4 l3.length cl4), (6, .slice A52_0 r2.length c52_0), (7, .int .i64 t7_2), (8, .int .i64 t8_3), (11, .int .i64 r3.1), (12, .int .i64 r3.2), (41, .slice A52_0 r2.length c52_0), (42, .int .i64 ((r2.length : Int))), (43, .int .i64 t43_1), (62, .bool t62_1)] ∧ Hp w wl8 [.own Al4 cl4 87 4 (List.map encLeft l3), .own A52_0 c52_0 3 1 (List.map encN r2), .blk b1 24 [.int .i64 a0.nodes, .int .i64 a0.from_, .int .i64 a0.to_, .slice A_a0_drains a0.drains.length c_a0_drains]])) ?_ ?_
            ·
              rintro _ wl8 ⟨t62_1, F, rfl, H⟩
              have R0 := H.ext
              unfold drain_run_k4 at F
              by_cases hp5 : t62_1 = true
              ·
                replace F := ite_y hp5 F
                have hq5 : t62_1 = true := hp5
                refine CW.condT rfl hq5 ?_
                refine CW.region ?_
                refine LW.pure rfl rfl (RV.move rfl) ?_
                refine LW.pure rfl rfl (RV.assign rfl) ?_
                refine LW.nil (jK535 _ _ ⟨_, ?_, ⟨r3.2, F, rfl, H⟩⟩)
                exact ⟨rfl, rfl, (look_slice rfl (by first | rfl | (simp; done) | (simp; omega))), (look_slice rfl (by first | rfl | (simp; done) | (simp; omega))), rfl, rfl, rfl, (look_slice rfl (by first | rfl | (simp; done) | (simp; omega))), rfl, rfl, trivial⟩
              ·
                replace F := ite_n hp5 F
                have hq5 : t62_1 = false := raw_f hp5
                refine CW.condF rfl hq5 ?_
                refine CW.skip (jK535 _ _ ⟨_, ?_, ⟨t8_3, F, rfl, H⟩⟩)
                exact ⟨rfl, rfl, (look_slice rfl (by first | rfl | (simp; done) | (simp; omega))), (look_slice rfl (by first | rfl | (simp; done) | (simp; omega))), rfl, rfl, rfl, (look_slice rfl (by first | rfl | (simp; done) | (simp; omega))), rfl, rfl, trivial⟩
            ·
              intro K25 hK25 jK536
              by_cases hp6 : t8_3 < 0
              ·
                replace F := ite_y hp6 F
                have hq6 := dec_t hp6
                refine CW.region ?_
                refine LW.pure rfl rfl (RV.move rfl) ?_
                refine LW.pure rfl rfl (RV.lss rfl rfl) ?_
                refine LW.pure rfl rfl (RV.move rfl) ?_
                refine LW.noB rfl rfl rfl rfl (ne_beq (v := true) hq6 rfl) ?_
                refine LW.noB rfl rfl rfl rfl (ne_beq (v := true) hq6 rfl) ?_
                refine LW.noB rfl rfl rfl rfl (ne_beq (v := true) hq6 rfl) ?_
                refine LW.pure rfl rfl (RV.pickTB rfl hq6 rfl) ?_
                refine LW.nil (jK536 _ _ ⟨_, ?_, ⟨true, F, rfl, H⟩⟩)
                exact ⟨rfl, rfl, (look_slice rfl (by first | rfl | (simp; done) | (simp; omega))), (look_slice rfl (by first | rfl | (simp; done) | (simp; omega))), rfl, rfl, rfl, rfl, (look_slice rfl (by first | rfl | (simp; done) | (simp; omega))), rfl, rfl, rfl, trivial⟩
              ·
                replace F := ite_n hp6 F
                have hq6 := dec_f hp6
                refine CW.region ?_
                refine LW.pure rfl rfl (RV.move rfl) ?_
                refine LW.pure rfl rfl (RV.lss rfl rfl) ?_
                refine LW.pure rfl rfl (RV.move rfl) ?_
                refine LW.pureYB rfl rfl rfl rfl hq6 (RV.move rfl) ?_
                refine LW.pureYB rfl rfl rfl rfl hq6 (RV.move rfl) ?_
                refine LW.pureYB rfl rfl rfl rfl hq6 (RV.lss rfl rfl) ?_
                refine LW.pure rfl rfl (RV.pickFB rfl hq6 rfl) ?_
                refine LW.nil (jK536 _ _ ⟨_, ?_, ⟨(decide (r3.2 < t8_3)), F, rfl, H⟩⟩)
                exact ⟨rfl, rfl, (look_slice rfl (by first | rfl | (simp; done) | (simp; omega))), (look_slice rfl (by first | rfl | (simp; done) | (simp; omega))), rfl, rfl, rfl, rfl, (look_slice rfl (by first | rfl | (simp; done) | (simp; omega))), rfl, rfl, rfl, trivial⟩
        ·
          replace F := ite_n hp4 F
          have hq4 := dec_f hp4
          refine CW.condF rfl hq4 ?_
          refine CW.exit (jK511 _ _ ⟨_, ?_, ⟨t8_3, F, rfl, H⟩⟩)
          exact ⟨rfl, rfl, (look_slice rfl (by first | rfl | (simp; done) | (simp; omega))), (look_slice rfl (by first | rfl | (simp; done) | (simp; omega))), rfl, trivial⟩
  ·
    intro K26 hK26 jK537
    refine CW.seq fun K27 hK27 => ?_
    refine CW.region ?_
    refine LW.pure rfl rfl (RV.fieldAddr Tf24_3 rfl) ?_
    refine LW.pure rfl rfl (RV.load1 Tk22 rfl ((H.blk 0 rfl).cells.off 3) rfl) ?_
    refine LW.pure rfl rfl (RV.len Ts22 rfl) ?_
    refine LW.pure rfl rfl (RV.move rfl) ?_
    refine LW.nil (hK27 _ _ ?_)
    refine CW.block ?_
    replace H := H.nilOwn 87 4
    replace R0 := H.ext
    refine CW.loop (fun meas ρ wl9 => ∃ (t20_1 : Int) (l5 : List Left) (Al5 : Option Addr) (cl5 : Nat), drain_run_L4 a0 meas t20_1 l5 = some res ∧ ρ = [(1, .pointer (some (⟨b1, 0, none⟩))), (2, .slice none 0 0), (3, .slice Al5 l5.length cl5), (18, .slice A_a0_drains a0.drains.length c_a0_drains), (19, .int .i64 ((a0.drains.length : Int))), (20, .int .i64 t20_1)] ∧ Hp w wl9 [.own Al5 cl5 87 4 (List.map encLeft l5), .blk b1 24 [.int .i64 a0.nodes, .int .i64 a0.from_, .int .i64 a0.to_, .slice A_a0_drains a0.drains.length c_a0_drains]]) FU ⟨_, ?_, ((0 : Int)), (([] : List Left)), none, 0, F, rfl, H⟩ ?_
    · exact ⟨rfl, rfl, (look_slice rfl (by first | rfl | (simp; done) | (simp; omega))), rfl, rfl, rfl, trivial⟩
    rintro mk4 _ wl9 ⟨t20_1, l5, Al5, cl5, F, rfl, H⟩
    have R0 := H.ext
    replace F := drain_run_L4_s F
    obtain ⟨mk4, rfl, F⟩ := F
    generalize hrec4 : drain_run_L4 a0 mk4 = rec4 at F
    unfold drain_run_B4 at F
    refine CW.seq fun K28 hK28 => ?_
    refine CW.region ?_
    refine LW.pure rfl rfl (RV.lss rfl rfl) ?_
    refine LW.nil (hK28 _ _ ?_)
    refine CW.seq fun K29 hK29 => ?_
    by_cases hp7 : t20_1 < ((a0.drains.length : Int))
    ·
      replace F := ite_y hp7 F
      have hq7 := dec_t hp7
      refine CW.condT rfl hq7 ?_
      refine CW.skip (hK29 _ _ ?_)
      refine CW.seq fun K30 hK30 => ?_
      refine CW.block ?_
      refine CW.seq fun K31 hK31 => ?_
      obtain ⟨x10, hbx10, hx10, F⟩ := ix_some F
      refine CW.region ?_
      refine LW.pure rfl rfl (RV.indexAddr Ts22 rfl rfl hbx10 (h_a0_drains.addr_ hx10)) ?_
      refine LW.pure rfl rfl (RV.loadA [.int .i64 x10.from_, .int .i64 x10.to_, .int .i64 x10.width] Tk52 rfl ((h_a0_drains.at_ hx10).ext R0) rfl rfl) ?_
      refine LW.go rfl rfl (OW.alloc Tz52 fun b2 w7 N2 => ?_)
      replace H := H.new N2 N2.blk
      replace R0 := H.ext
      refine LW.go rfl rfl (OW.store Tk52 rfl rfl (H.blk 0 rfl) (off := 0) (vs := [.int .i64 x10.from_, .int .i64 x10.to_, .int .i64 x10.width]) rfl rfl rfl rfl rfl fun w8 S1 => ?_)
      replace H : Hp w w8 [.blk b2 52 [.int .i64 x10.from_, .int .i64 x10.to_, .int .i64 x10.width], .own Al5 cl5 87 4 (List.map encLeft l5), .blk b1 24 [.int .i64 a0.nodes, .int .i64 a0.from_, .int .i64 a0.to_, .slice A_a0_drains a0.drains.length c_a0_drains]] := H.stored 0 rfl S1
      replace R0 := H.ext
      refine LW.nil (hK31 _ _ ?_)
      obtain ⟨hg5, F⟩ := gd_some F
      refine CW.region ?_
      refine LW.pure rfl rfl (RV.move rfl) ?_
      refine LW.pure rfl rfl (RV.loadA [.int .i64 x10.from_, .int .i64 x10.to_, .int .i64 x10.width] Tk52 rfl (H.blk 0 rfl).cells rfl rfl) ?_
      refine LW.pure rfl rfl (RV.build (vs := [.agg #[.int .i64 x10.from_, .int .i64 x10.to_, .int .i64 x10.width]]) (cs := [.int .i64 x10.from_, .int .i64 x10.to_, .int .i64 x10.width, .int .i64 0]) rfl (fun _ => by kernel_rfl)) ?_
      refine LW.go rfl rfl (OW.buildSlice (e := 87) (vs := [.agg #[.int .i64 x10.from_, .int .i64 x10.to_, .int .i64 x10.width, .int .i64 0]]) (cs := [.int .i64 x10.from_, .int .i64 x10.to_, .int .i64 x10.width, .int .i64 0]) rfl (fun _ => by kernel_rfl) fun b3 w9 N3 => ?_)
      replace H := H.made' (k := 4) (t := 87) (enc := encLeft) (l := ([(⟨x10, 0⟩ : Left)] : List Left)) N3 N3.blk (fun _ => rfl) rfl (by first | decide | omega | (simp; done) | (simp; omega))
      replace R0 := H.ext
      refine LW.go rfl rfl (OW.appendG (enc := encLeft) (l := l5) (xs := ([(⟨x10, 0⟩ : Left)] : List Left)) Ts63 rfl (look_slice rfl (by first | rfl | (simp; done) | (simp; omega))) (H.own 2 rfl) (H.own 0 rfl).sl (fun _ => rfl) rfl rfl hg5 (by decide) fun A2 c2 w10 O3 M3 D1 => ?_)
      replace H : Hp w w10 [.own (some ⟨b3, 0, none⟩) ((([(⟨x10, 0⟩ : Left)] : List Left)).length) 87 4 (List.map encLeft (([(⟨x10, 0⟩ : Left)] : List Left))), .blk b2 52 [.int .i64 x10.from_, .int .i64 x10.to_, .int .i64 x10.width], .own A2 c2 87 4 (List.map encLeft ((l5 ++ ([(⟨x10, 0⟩ : Left)] : List Left)))), .blk b1 24 [.int .i64 a0.nodes, .int .i64 a0.from_, .int .i64 a0.to_, .slice A_a0_drains a0.drains.length c_a0_drains]] := H.mod 2 rfl M3 O3 D1
      replace R0 := H.ext
      refine LW.pure rfl rfl (RV.assign rfl) ?_
      refine LW.nil (hK30 _ _ ?_)
      obtain ⟨hg6, F⟩ := gd_some F
      refine CW.region ?_
      refine LW.pure rfl rfl (RV.add rfl rfl hg6) ?_
      refine LW.pure rfl rfl (RV.move rfl) ?_
      refine LW.nil ?_
      replace H := H.pick (L' := [.own A2 c2 87 4 (List.map encLeft ((l5 ++ ([(⟨x10, 0⟩ : Left)] : List Left)))), .blk b1 24 [.int .i64 a0.nodes, .int .i64 a0.from_, .int .i64 a0.to_, .slice A_a0_drains a0.drains.length c_a0_drains]]) [2, 3] (by decide) rfl
      replace R0 := H.ext
      subst hrec4
      refine ⟨mk4, Nat.lt_succ_self _, _, ?_, (t20_1 + 1), ((l5 ++ ([(⟨x10, 0⟩ : Left)] : List Left))), A2, c2, F, rfl, H⟩
      exact ⟨rfl, rfl, (look_slice rfl (by first | rfl | (simp; done) | (simp; omega))), rfl, rfl, rfl, trivial⟩
    ·
      replace F := ite_n hp7 F
      have hq7 := dec_f hp7
      refine CW.condF rfl hq7 ?_
      refine CW.exit (jK537 _ _ ⟨_, ?_, ⟨l5, Al5, cl5, F, rfl, H⟩⟩)
      exact ⟨rfl, rfl, (look_slice rfl (by first | rfl | (simp; done) | (simp; omega))), trivial⟩
end Go.D2
