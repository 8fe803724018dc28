/- The fast evaluator is sound: code and functions. -/
import Derived.Test.YtgmclgajlofljaaGreatDoorTmKf
set_option linter.all false
namespace Go.TM
open Go
section
variable {call : CallK} {cF : CallF} {u8 : Cf} {lf : Nat} {om : FuncId → List Nat} {L n : Nat} {r : An} {P : Program}
theorem bEq_t (a b : Bool) : bEq a b = (a == b) := by cases a <;> cases b <;> rfl
theorem gK_t {v : V} {w : Bool} {A B : Option An} (h : gK v w A B = some r) : (∃ q, v.t = .sc (.bool q) ∧ ((q == w) = true ∧ A = some r ∨ (q == w) = false ∧ B = some r)) ∨ (v.t = .tup [] ∧ B = some r) := by
 cases v with
 | b q =>
  have h : (@Bool.rec (fun _ => Option An) B A (bEq q w)) = some r := h
  rw [bEq_t] at h
  left
  refine ⟨q, by simp only [V.t], ?_⟩
  cases hq : (q == w) with
  | true => rw [hq] at h; exact .inl ⟨rfl, h⟩
  | false => rw [hq] at h; exact .inr ⟨rfl, h⟩
 | tup cs =>
  cases cs with
  | nil => exact .inr ⟨by simp only [V.t, V.tL], h⟩
  | cons x xs => cases h
 | _ => cases h
theorem ops_t (hc : CallT call cF) (ho : OmT u8 om) : ∀ (l : KL) {s : SL} {S : KS} {k : SL → KS → Option An}, opsK l call u8 L s S k = some r → ∃ s1 S1, evXs cF om L l.l ⟨s.t, abS S⟩ = some ⟨s1.t, abS S1⟩ ∧ k s1 S1 = some r
 | .nil, s, S, k, h => ⟨s, S, rfl, h⟩
 | .o d x l, s, S, k, h => by
  obtain ⟨v, S1, h1, h2⟩ := x_t hc ho (show (xK x call u8 L (some d) s S fun v S' => opsK l call u8 L (.cons d v s) S' k) = some r from h)
  obtain ⟨s2, S2, h3, h4⟩ := ops_t hc ho l h2
  exact ⟨s2, S2, by simp only [KL.l, evXs, stepX, h1, putX]; exact h3, h4⟩
 | .on x l, s, S, k, h => by
  obtain ⟨v, S1, h1, h2⟩ := x_t hc ho (show (xK x call u8 L none s S fun v S' => opsK l call u8 L s S' k) = some r from h)
  obtain ⟨s2, S2, h3, h4⟩ := ops_t hc ho l h2
  exact ⟨s2, S2, by simp only [KL.l, evXs, stepX, h1, putX]; exact h3, h4⟩
 | .og d j w x l, s, S, k, h => by
  rcases gK_t (show gK (kg s j) w (xK x call u8 L (some d) s S fun v S' => opsK l call u8 L (.cons d v s) S' k) (opsK l call u8 L (.cons d (.tup []) s) S k) = some r from h) with ⟨q, hq, ⟨e, h⟩ | ⟨e, h⟩⟩ | ⟨hq, h⟩
  ·obtain ⟨v, S1, h1, h2⟩ := x_t hc ho h
   obtain ⟨s2, S2, h3, h4⟩ := ops_t hc ho l h2
   exact ⟨s2, S2, by simp only [KL.l, evXs, stepX, kg_t, hq, e, cond_true, h1, putX]; exact h3, h4⟩
  ·obtain ⟨s2, S2, h3, h4⟩ := ops_t hc ho l h
   exact ⟨s2, S2, by simp only [KL.l, evXs, stepX, kg_t, hq, e, cond_false, putX]; simpa only [SL.t, V.t, V.tL] using h3, h4⟩
  ·obtain ⟨s2, S2, h3, h4⟩ := ops_t hc ho l h
   exact ⟨s2, S2, by simp only [KL.l, evXs, stepX, kg_t, hq, putX]; simpa only [SL.t, V.t, V.tL] using h3, h4⟩
 | .ong j w x l, s, S, k, h => by
  rcases gK_t (show gK (kg s j) w (xK x call u8 L none s S fun v S' => opsK l call u8 L s S' k) (opsK l call u8 L s S k) = some r from h) with ⟨q, hq, ⟨e, h⟩ | ⟨e, h⟩⟩ | ⟨hq, h⟩
  ·obtain ⟨v, S1, h1, h2⟩ := x_t hc ho h
   obtain ⟨s2, S2, h3, h4⟩ := ops_t hc ho l h2
   exact ⟨s2, S2, by simp only [KL.l, evXs, stepX, kg_t, hq, e, cond_true, h1, putX]; exact h3, h4⟩
  ·obtain ⟨s2, S2, h3, h4⟩ := ops_t hc ho l h
   exact ⟨s2, S2, by simp only [KL.l, evXs, stepX, kg_t, hq, e, cond_false, putX]; exact h3, h4⟩
  ·obtain ⟨s2, S2, h3, h4⟩ := ops_t hc ho l h
   exact ⟨s2, S2, by simp only [KL.l, evXs, stepX, kg_t, hq, putX]; exact h3, h4⟩
theorem over_at (ls : LSet) (S Y : Store) : ∀ l ∈ ls, over ls S Y l = S l := by
 intro l hl; unfold over; rw [if_pos hl]
theorem step_q (hc : CallT call cF) (ho : OmT u8 om) {d : Option Nat} {g : Option (Nat × Bool)} {x : Y} {f : Foot} {s : SL} {S : KS} {k : V → KS → Option An} (hd : ∀ k, d = some k → k < 4294967296)
  (hg : ∀ S, valX cF om L ⟨d, g, x.x⟩ s.t S = evX cF om L d s.t S x.x) (h : (xK x call u8 L d s S fun v S' => fitK x u8 L d f s S v S' (k v S')) = some r) :
  ∃ v S1, valX cF om L ⟨d, g, x.x⟩ s.t (abS S) = some (v.t, abS S1) ∧ (trunc L (abS S) = abS S ∧ trunc L (abS S1) = abS S1) ∧ Local cF om L ⟨d, g, x.x⟩ f s.t (abS S) v.t (abS S1) ∧ k v S1 = some r := by
 obtain ⟨v, S1, h1, h2⟩ := x_t hc ho h
 have h2 : (@Bool.rec (fun _ => Option An) none (@Bool.rec (fun _ => Option An) none (@Bool.rec (fun _ => Option An) none (@Bool.rec (fun _ => Option An) none (k v S1) (fitX x u8 L d f s S v)) (subF f)) (okS S1 L)) (okS S L)) = some r := h2
 simp only [br_some] at h2
 obtain ⟨a1, a2, a3, a4, a5⟩ := h2
 refine ⟨v, S1, by rw [hg]; exact h1, ⟨okS_t S a1, okS_t S1 a2⟩, fun X => ?_, a5⟩
 rw [hg]
 exact fit_t ho h1 a4 a3 hd (over_at _ _ _)
def dK : KL → Bool
 | .nil => true
 | .o d _ r | .og d _ _ _ r => Nat.blt d 4294967296 && dK r
 | .on _ r | .ong _ _ _ r => dK r
theorem skip_q {d : Option Nat} {g : Nat × Bool} {x : Y} {f : Foot} {s : SL} {S : KS} (hv : ∀ S, valX cF om L ⟨d, some g, x.x⟩ s.t S = some (.tup [], S)) (h1 : okS S L = true) (h2 : subF f = true) :
  valX cF om L ⟨d, some g, x.x⟩ s.t (abS S) = some (.tup [], abS S) ∧ (trunc L (abS S) = abS S ∧ trunc L (abS S) = abS S) ∧ Local cF om L ⟨d, some g, x.x⟩ f s.t (abS S) (.tup []) (abS S) := by
 refine ⟨hv _, ⟨okS_t S h1, okS_t S h1⟩, fun X => ?_⟩
 rw [hv, over_same (over_at _ _ _) (subF_t h2)]
open Classical in
theorem q_t (hc : CallT call cF) (ho : OmT u8 om) : ∀ (l : KL) (fs : List Foot) {s : SL} {S : KS} {k : SL → KS → Option An}, dK l = true → qK l fs call u8 L s S k = some r → ∃ s1 S1, qrun cF om L l.l fs ⟨s.t, abS S⟩ = some ⟨s1.t, abS S1⟩ ∧ k s1 S1 = some r
 | .nil, fs, s, S, k, _, h => ⟨s, S, by simp only [KL.l, qrun], h⟩
 | .o d x l, [], s, S, k, _, h => by cases h
 | .o d x l, f :: fs, s, S, k, hd, h => by
  simp only [dK, Bool.and_eq_true, nblt] at hd
  obtain ⟨v, S1, h1, h2, h3, h4⟩ := step_q (g := none) hc ho (fun k hk => by cases hk; exact hd.1) (fun S => rfl) (show (xK x call u8 L (some d) s S fun v S' => fitK x u8 L (some d) f s S v S' (qK l fs call u8 L (.cons d v s) S' k)) = some r from h)
  obtain ⟨s2, S2, h5, h6⟩ := q_t hc ho l fs hd.2 h4
  refine ⟨s2, S2, ?_, h6⟩
  simp only [KL.l, qrun, h1]
  rw [if_pos ⟨h2, h3⟩]
  exact h5
 | .on x l, [], s, S, k, _, h => by cases h
 | .on x l, f :: fs, s, S, k, hd, h => by
  simp only [dK] at hd
  obtain ⟨v, S1, h1, h2, h3, h4⟩ := step_q (g := none) hc ho (fun k hk => by cases hk) (fun S => rfl) (show (xK x call u8 L none s S fun v S' => fitK x u8 L none f s S v S' (qK l fs call u8 L s S' k)) = some r from h)
  obtain ⟨s2, S2, h5, h6⟩ := q_t hc ho l fs hd h4
  refine ⟨s2, S2, ?_, h6⟩
  simp only [KL.l, qrun, h1]
  rw [if_pos ⟨h2, h3⟩]
  exact h5
 | .og d j w x l, [], s, S, k, _, h => by cases h
 | .og d j w x l, f :: fs, s, S, k, hd, h => by
  simp only [dK, Bool.and_eq_true, nblt] at hd
  have h : (@Bool.rec (fun _ => Option An) none (@Bool.rec (fun _ => Option An) none (gK (kg s j) w (xK x call u8 L (some d) s S fun v S' => fitK x u8 L (some d) f s S v S' (qK l fs call u8 L (.cons d v s) S' k)) (qK l fs call u8 L (.cons d (.tup []) s) S k)) (subF f)) (okS S L)) = some r := h
  simp only [br_some] at h
  obtain ⟨o1, o2, h⟩ := h
  rcases gK_t h with ⟨q, hq, ⟨e, h⟩ | ⟨e, h⟩⟩ | ⟨hq, h⟩
  ·obtain ⟨v, S1, h1, h2, h3, h4⟩ := step_q (g := some (j, w)) hc ho (fun k hk => by cases hk; exact hd.1) (fun S => by
    have e' : q = w := by simpa using e
    simp only [valX, kg_t, hq, e', if_true]) h
   obtain ⟨s2, S2, h5, h6⟩ := q_t hc ho l fs hd.2 h4
   refine ⟨s2, S2, ?_, h6⟩
   simp only [KL.l, qrun, h1]
   rw [if_pos ⟨h2, h3⟩]
   exact h5
  ·obtain ⟨h1, h2, h3⟩ := skip_q (cF := cF) (om := om) (d := some d) (g := (j, w)) (x := x) (f := f) (s := s) (S := S) (fun S => by
    have e' : ¬ q = w := by simpa using e
    simp only [valX, kg_t, hq, e', if_false]) o1 o2
   obtain ⟨s2, S2, h5, h6⟩ := q_t hc ho l fs hd.2 h
   refine ⟨s2, S2, ?_, h6⟩
   simp only [KL.l, qrun, h1]
   rw [if_pos ⟨h2, h3⟩]
   simpa only [SL.t, V.t, V.tL, putX] using h5
  ·obtain ⟨h1, h2, h3⟩ := skip_q (cF := cF) (om := om) (d := some d) (g := (j, w)) (x := x) (f := f) (s := s) (S := S) (fun S => by simp only [valX, kg_t, hq]) o1 o2
   obtain ⟨s2, S2, h5, h6⟩ := q_t hc ho l fs hd.2 h
   refine ⟨s2, S2, ?_, h6⟩
   simp only [KL.l, qrun, h1]
   rw [if_pos ⟨h2, h3⟩]
   simpa only [SL.t, V.t, V.tL, putX] using h5
 | .ong j w x l, [], s, S, k, _, h => by cases h
 | .ong j w x l, f :: fs, s, S, k, hd, h => by
  simp only [dK] at hd
  have h : (@Bool.rec (fun _ => Option An) none (@Bool.rec (fun _ => Option An) none (gK (kg s j) w (xK x call u8 L none s S fun v S' => fitK x u8 L none f s S v S' (qK l fs call u8 L s S' k)) (qK l fs call u8 L s S k)) (subF f)) (okS S L)) = some r := h
  simp only [br_some] at h
  obtain ⟨o1, o2, h⟩ := h
  rcases gK_t h with ⟨q, hq, ⟨e, h⟩ | ⟨e, h⟩⟩ | ⟨hq, h⟩
  ·obtain ⟨v, S1, h1, h2, h3, h4⟩ := step_q (g := some (j, w)) hc ho (fun k hk => by cases hk) (fun S => by
    have e' : q = w := by simpa using e
    simp only [valX, kg_t, hq, e', if_true]) h
   obtain ⟨s2, S2, h5, h6⟩ := q_t hc ho l fs hd h4
   refine ⟨s2, S2, ?_, h6⟩
   simp only [KL.l, qrun, h1]
   rw [if_pos ⟨h2, h3⟩]
   exact h5
  ·obtain ⟨h1, h2, h3⟩ := skip_q (cF := cF) (om := om) (d := none) (g := (j, w)) (x := x) (f := f) (s := s) (S := S) (fun S => by
    have e' : ¬ q = w := by simpa using e
    simp only [valX, kg_t, hq, e', if_false]) o1 o2
   obtain ⟨s2, S2, h5, h6⟩ := q_t hc ho l fs hd h
   refine ⟨s2, S2, ?_, h6⟩
   simp only [KL.l, qrun, h1]
   rw [if_pos ⟨h2, h3⟩]
   exact h5
  ·obtain ⟨h1, h2, h3⟩ := skip_q (cF := cF) (om := om) (d := none) (g := (j, w)) (x := x) (f := f) (s := s) (S := S) (fun S => by simp only [valX, kg_t, hq]) o1 o2
   obtain ⟨s2, S2, h5, h6⟩ := q_t hc ho l fs hd h
   refine ⟨s2, S2, ?_, h6⟩
   simp only [KL.l, qrun, h1]
   rw [if_pos ⟨h2, h3⟩]
   exact h5
def dC : KC → Bool
 | .skip | .ops _ | .exit _ _ | .ret _ => true
 | .drq l _ => dK l
 | .seq a b | .cond _ a b => dC a && dC b
 | .block _ c | .loop _ c => dC c
def OutK (P : Program) (cF : CallF) (om : FuncId → List Nat) (L n : Nat) (c : LC) (s : SL) (S : KS) (kn : Kn) (ke : Nat → Kn) (kr : Kn) (r : An) : Prop :=
 ∃ s1 S1, (evL' P cF om L n c ⟨s.t, abS S⟩ = some (.nrm, ⟨s1.t, abS S1⟩) ∧ kn s1 S1 = some r) ∨ (∃ i, evL' P cF om L n c ⟨s.t, abS S⟩ = some (.exit i, ⟨s1.t, abS S1⟩) ∧ ke i s1 S1 = some r) ∨ (evL' P cF om L n c ⟨s.t, abS S⟩ = some (.ret, ⟨s1.t, abS S1⟩) ∧ kr s1 S1 = some r)
theorem loop_t {h : Head} {c : KC} {body : SL → KS → Kn → Option An} {ke : Nat → Kn} {kr : Kn} (hb : ∀ s S kn, body s S kn = some r → OutK P cF om L n c.c s S kn ke kr r) : ∀ (m : Nat) {s : SL} {S : KS}, loopK m h body L s S = some r →
  OutK P cF om L n (.loop h c.c) s S (fun _ _ => none) ke kr r
 | 0, s, S, hh => by cases hh
 | m + 1, s, S, hh => by
  obtain ⟨s1, S1, h1, h2⟩ := hd_t (show (hdK h L s S fun s S => body s S fun s S => loopK m h body L s S) = some r from hh)
  obtain ⟨s2, S2, h3⟩ := hb _ _ _ h2
  rcases h3 with ⟨a, b⟩ | ⟨i, a, b⟩ | ⟨a, b⟩
  ·obtain ⟨s3, S3, h4⟩ := loop_t hb m b
   refine ⟨s3, S3, ?_⟩
   rcases h4 with ⟨a', b'⟩ | ⟨i, a', b'⟩ | ⟨a', b'⟩
   ·cases b'
   ·refine .inr (.inl ⟨i, ?_, b'⟩)
    rw [evL'_loop, h1, a]; exact a'
   ·refine .inr (.inr ⟨?_, b'⟩)
    rw [evL'_loop, h1, a]; exact a'
  ·refine ⟨s2, S2, .inr (.inl ⟨i, ?_, b⟩)⟩
   rw [evL'_loop, h1, a]
  ·refine ⟨s2, S2, .inr (.inr ⟨?_, b⟩)⟩
   rw [evL'_loop, h1, a]
theorem code_t (hc : CallT call cF) (ho : OmT u8 om) : ∀ (c : KC) {s : SL} {S : KS} {kn : Kn} {ke : Nat → Kn} {kr : Kn}, dC c = true → codeK c call u8 lf L s S kn ke kr = some r → OutK P cF om L n c.c s S kn ke kr r
 | .skip, s, S, kn, ke, kr, _, h => ⟨s, S, .inl ⟨by simp only [KC.c, evL'], h⟩⟩
 | .ops l, s, S, kn, ke, kr, _, h => by
  obtain ⟨s1, S1, h1, h2⟩ := ops_t hc ho l (show opsK l call u8 L s S kn = some r from h)
  exact ⟨s1, S1, .inl ⟨by simp only [KC.c, evL', h1], h2⟩⟩
 | .drq l f, s, S, kn, ke, kr, hd, h => by
  obtain ⟨s1, S1, h1, h2⟩ := q_t hc ho l f hd (show qK l f call u8 L s S kn = some r from h)
  exact ⟨s1, S1, .inl ⟨by simp only [KC.c, evL', h1], h2⟩⟩
 | .seq a b, s, S, kn, ke, kr, hd, h => by
  simp only [dC, Bool.and_eq_true] at hd
  obtain ⟨s1, S1, h1⟩ := code_t hc ho a hd.1 (show codeK a call u8 lf L s S (fun s S => codeK b call u8 lf L s S kn ke kr) ke kr = some r from h)
  rcases h1 with ⟨x, y⟩ | ⟨i, x, y⟩ | ⟨x, y⟩
  ·obtain ⟨s2, S2, h2⟩ := code_t hc ho b hd.2 y
   refine ⟨s2, S2, ?_⟩
   simp only [KC.c, evL', x]
   exact h2
  ·exact ⟨s1, S1, .inr (.inl ⟨i, by simp only [KC.c, evL', x], y⟩)⟩
  ·exact ⟨s1, S1, .inr (.inr ⟨by simp only [KC.c, evL', x], y⟩)⟩
 | .cond c a b, s, S, kn, ke, kr, hd, h => by
  simp only [dC, Bool.and_eq_true] at hd
  obtain ⟨q, h1, h2⟩ := onB_iff.1 (show (onB (eO s c) fun q => @Bool.rec (fun _ => Option An) (codeK b call u8 lf L s S kn ke kr) (codeK a call u8 lf L s S kn ke kr) q) = some r from h)
  have he : ev s.t c.t' = some (.sc (.bool q)) := by rw [eO_t, h1]; simp only [V.t]
  cases q with
  | true =>
   obtain ⟨s1, S1, h3⟩ := code_t hc ho a hd.1 h2
   refine ⟨s1, S1, ?_⟩
   simp only [KC.c, evL', he, cond_true]
   exact h3
  | false =>
   obtain ⟨s1, S1, h3⟩ := code_t hc ho b hd.2 h2
   refine ⟨s1, S1, ?_⟩
   simp only [KC.c, evL', he, cond_false]
   exact h3
 | .block id c, s, S, kn, ke, kr, hd, h => by
  obtain ⟨s1, S1, h1⟩ := code_t hc ho c hd (show codeK c call u8 lf L s S kn (fun i s S => @Bool.rec (fun _ => Option An) (ke i s S) (kn s S) (Nat.beq i id)) kr = some r from h)
  refine ⟨s1, S1, ?_⟩
  rcases h1 with ⟨x, y⟩ | ⟨i, x, y⟩ | ⟨x, y⟩
  ·exact .inl ⟨by simp only [KC.c, evL', x], y⟩
  ·have y : (@Bool.rec (fun _ => Option An) (ke i s1 S1) (kn s1 S1) (Nat.beq i id)) = some r := y
   rw [br_if] at y
   simp only [nbeq] at y
   split at y
   ·rename_i e
    exact .inl ⟨by simp only [KC.c, evL', x, e, if_true], y⟩
   ·rename_i e
    exact .inr (.inl ⟨i, by simp only [KC.c, evL', x, e, if_false], y⟩)
  ·exact .inr (.inr ⟨by simp only [KC.c, evL', x], y⟩)
 | .loop h c, s, S, kn, ke, kr, hd, hh => by
  obtain ⟨s1, S1, h1⟩ := loop_t (P := P) (n := n) (c := c) (fun s S kn hb => code_t hc ho c hd hb) lf (show loopK lf h (fun s S kn => codeK c call u8 lf L s S kn ke kr) L s S = some r from hh)
  refine ⟨s1, S1, ?_⟩
  rcases h1 with ⟨x, y⟩ | y | y
  ·cases y
  ·exact .inr (.inl y)
  ·exact .inr (.inr y)
 | .exit h id, s, S, kn, ke, kr, _, hh => by
  obtain ⟨s1, S1, h1, h2⟩ := lvK_t (show lvK h L s S (ke id) = some r from hh)
  exact ⟨s1, S1, .inr (.inl ⟨id, by simp only [KC.c, evL', h1], h2⟩)⟩
 | .ret h, s, S, kn, ke, kr, _, hh => by
  obtain ⟨s1, S1, h1, h2⟩ := lvK_t (show lvK h L s S kr = some r from hh)
  exact ⟨s1, S1, .inr (.inr ⟨by simp only [KC.c, evL', h1], h2⟩)⟩
theorem res_t {s : SL} {S : KS} : ∀ (q : List KR) {k : List V → Option An}, resK q s S k = some r → ∃ ts, resR s.t (abS S) (q.map KR.r) = some (V.tL ts) ∧ k ts = some r
 | [], k, h => ⟨[], by simp only [List.map_nil, resR, V.tL], h⟩
 | .tmp t :: q, k, h => by
  obtain ⟨ts, h1, h2⟩ := res_t q (show (resK q s S fun l => k (kg s t :: l)) = some r from h)
  exact ⟨kg s t :: ts, by simp only [List.map_cons, KR.r, resR, h1, kg_t, V.tL], h2⟩
 | .cell a ag m :: q, k, h => by
  obtain ⟨v, h1, h2⟩ := load_t (show (loadK (kg s a) ag m S fun x => resK q s S fun l => k (x :: l)) = some r from h)
  obtain ⟨ts, h3, h4⟩ := res_t q h2
  exact ⟨v :: ts, by simp only [List.map_cons, KR.r, resR, kg_t, h1, h3, V.tL], h4⟩
theorem oneK_t (ts : List V) : oneT (V.tL ts) = (oneK ts).t := by
 cases ts with
 | nil => simp only [V.tL, oneT]; show _ = V.t (.tup []); simp only [V.t, V.tL]
 | cons x xs =>
  cases xs with
  | nil => simp only [V.tL, oneT]; rfl
  | cons y ys => simp only [V.tL, oneT]; show _ = V.t (.tup (x :: y :: ys)); simp only [V.t, V.tL]
theorem kargs_from (args : List V) : ∀ i, SL.t (@List.rec V (fun _ => Nat → SL) (fun _ => .nil) (fun v _ ih i => .cons i v (ih (Nat.succ i))) args i) = (List.range' i args.length).zip (V.tL args) := by
 induction args with
 | nil => intro i; simp only [V.tL, List.zip_nil_right]; rfl
 | cons v args ih =>
  intro i
  simp only [V.tL, List.length_cons, List.range'_succ, List.zip_cons_cons]
  show (i, v.t) :: SL.t _ = _
  rw [ih (i + 1)]
theorem kargs_t (args : List V) : (kargs args).t = (List.range (V.tL args).length).zip (V.tL args) := by
 rw [tL_len, List.range_eq_range']
 exact kargs_from args 0
end
structure KEOk (K : KE) (E : Env) : Prop where
 om : OmT K.u8 E.om
 X : ∀ f g, K.X f = some g → ∃ g', E.X f = some g' ∧ ∀ args v, g args = some v → g' (V.tL args) = some v.t
 F : ∀ f F, K.X f = none → K.F.get f = some F → dC F.c = true ∧ E.X f = none ∧ ∃ fn, E.P.funcs[f]? = some fn ∧ toLF E.P (E.an f) fn = some F.f
 M : ∀ f args v, K.M f args = some v → callF E 0 f (V.tL args) emp = some (v.t, emp)
theorem fn_t {K : KE} {E : Env} (hk : KEOk K E) {call : CallK} (hc : CallT call (callF E)) {L f : Nat} {args : List V} {S : KS} {k : V → KS → Option An} {r : An} (h : fnK K call L f args S k = some r) :
  ∃ v S1, callF E L f (V.tL args) (abS S) = some (v.t, abS S1) ∧ k v S1 = some r := by
 unfold fnK at h
 cases hx : K.X f with
 | some g =>
  rw [hx] at h
  have h : orcK g args S k = some r := h
  unfold orcK at h
  obtain ⟨v, h1, h2⟩ := sk_iff.1 h
  simp only [br_some, br_none] at h2
  obtain ⟨h3, h4, h5, h6⟩ := h2
  refine ⟨v, S, ?_, h6⟩
  obtain ⟨g', hg', hg⟩ := hk.X f g hx
  refine callF_of ?_
  unfold fnStep
  simp only [hg', hg args v h1, Option.bind_some, ← cl_t, h3, ← hl_t, h4, ← clL_t, h5, Bool.not_false, Bool.and_self, if_true]
 | none =>
  rw [hx] at h
  have h : (@Option.rec KF (fun _ => Option An) none (fun F => bodyK K call L F args S k) (K.F.get f)) = some r := h
  rw [op_some] at h
  obtain ⟨F, hF, h⟩ := h
  obtain ⟨hd, hX, fn, hfn, hl⟩ := hk.F f F hx hF
  unfold bodyK at h
  rw [br_some, nble, klen_eq] at h
  obtain ⟨hn, h⟩ := h
  obtain ⟨s1, S1, ho⟩ := code_t (P := E.P) (n := F.n) hc hk.om F.c hd h
  have fin : ∀ x, x ≠ Ex.exit 0 → (∀ i, x ≠ Ex.exit i) → evL' E.P (callF E) E.om (L + 1) F.n F.c.c ⟨(kargs args).t, abS S⟩ = some (x, ⟨s1.t, abS S1⟩) → leaveK F L k s1 S1 = some r → ∃ v S2, callF E L f (V.tL args) (abS S) = some (v.t, abS S2) ∧ k v S2 = some r := by
   intro x _ hxe he hlv
   unfold leaveK at hlv
   obtain ⟨ts, h1, h2⟩ := res_t F.r hlv
   obtain ⟨v, S2, h3, h4⟩ := hand_t h2
   refine ⟨v, S2, callF_light hX hfn hl (by rw [tL_len]; exact hn) ?_, h4⟩
   unfold evF
   rw [kargs_t] at he
   show (match evL' E.P (callF E) E.om (L + 1) F.n F.c.c _ with | some (.exit _, _) | none => none | some (_, st) => match resR st.s st.S (F.r.map KR.r) with | some ts => hand F.z (L + 1) (oneT ts) st.S | none => none) = _
   rw [he]
   cases x with
   | exit i => exact absurd rfl (hxe i)
   | nrm => simp only [h1, oneK_t]; exact h3
   | ret => simp only [h1, oneK_t]; exact h3
  rcases ho with ⟨a, b⟩ | ⟨i, a, b⟩ | ⟨a, b⟩
  ·exact fin .nrm (by simp) (by simp) a b
  ·cases b
  ·exact fin .ret (by simp) (by simp) a b
theorem callM_t {K : KE} {E : Env} (hk : KEOk K E) {call : CallK} (hc : CallT call (callF E)) : CallT (callM K call) (callF E) := by
 intro L f args S k r h
 cases L with
 | succ L => exact fn_t hk hc h
 | zero =>
  cases S with
  | cons e S => exact fn_t hk hc h
  | nil =>
   have h : (@Option.rec V (fun _ => Option An) (fnK K call 0 f args [] k) (fun r => k r []) (K.M f args)) = some r := h
   cases hm : K.M f args with
   | none => rw [hm] at h; exact fn_t hk hc h
   | some v =>
    rw [hm] at h
    exact ⟨v, [], by rw [abS_nil]; exact hk.M f args v hm, h⟩
theorem callK_t {K : KE} {E : Env} (hk : KEOk K E) : ∀ n, CallT (callK K n) (callF E)
 | 0 => fun _ _ _ _ _ _ h => by cases h
 | n + 1 => callM_t hk (callK_t hk n)
theorem runK_t {K : KE} {E : Env} (hk : KEOk K E) {n f : Nat} {args : List V} {v : V} {S : KS} (h : runK K n f args = some (v, S)) : callF E 0 f (V.tL args) emp = some (v.t, abS S) := by
 obtain ⟨v', S', h1, h2⟩ := callK_t hk n _ _ _ _ _ _ h
 simp only [Option.some.injEq, Prod.mk.injEq] at h2
 obtain ⟨rfl, rfl⟩ := h2
 rw [abS_nil] at h1
 exact h1
end Go.TM
