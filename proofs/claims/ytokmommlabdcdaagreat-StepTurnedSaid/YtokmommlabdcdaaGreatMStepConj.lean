/- Conjugates in, conjugates out, but for the signs of noughts: every correction. -/
import Derived.Test.YtokmommlabdcdaaGreatMFlConj2
import Derived.Test.YtokmommlabdcdaaGreatMHorner2
set_option linter.unusedVariables false
set_option linter.unusedSimpArgs false
set_option linter.unusedVariables false
namespace Go.Proofs.YtokmommlabdcdaaGreat
open Fl
theorem nullC : CL (0, 0) (0, 0) := ⟨.inl (.refl _), .inr ⟨by decide, by decide⟩⟩
theorem oneC : CL cOne cOne := ⟨.inl (.refl _), .inr ⟨by decide, by decide⟩⟩
theorem stepC {v z c x v' z' c' x' : Cpx} (hv : Lt64 v) (hz : Lt64 z) (hc : Lt64 c) (h : StepR v z c x) (g : StepR v' z' c' x') (h1 : CL v v') (h2 : CL z z') (h3 : CL c c') : CL x x' := by
  obtain ⟨p, q, e1, e2⟩ := h
  obtain ⟨p', q', f1, f2⟩ := g
  exact addC (a := (p, q)) (a' := (p', q')) ⟨e1.lt.1, e1.lt.2⟩ hc e2 f2 (mulC (x := (p, q)) (x' := (p', q')) hv hz e1 f1 h1 h2) h3
theorem bothC {cs cs' : List Cpx} {z z' : Cpx} (ok : CsOk cs) (hz : Lt64 z) (hl : cs'.length = cs.length) (hC : ∀ i, CL (nth cs i) (nth cs' i)) (h2 : CL z z') : ∀ {n : Nat} {v s v' s' : Cpx}, BothN cs z n v s → BothN cs' z' n v' s' → CL v v' ∧ CL s s'
  | 0, _, _, _, _, ⟨h1, h2⟩, ⟨g1, g2⟩ => by subst h1; subst h2; subst g1; subst g2; rw [hl]; exact ⟨hC _, nullC⟩
  | n + 1, _, _, _, _, ⟨v0, s0, h, h1, h3⟩, ⟨v0', s0', g, g1, g3⟩ => by
    have ⟨a, b⟩ := bothC ok hz hl hC h2 h g
    have L := h.lt ok
    rw [hl] at g1
    exact ⟨stepC L.1 hz (nthOk ok _) h1 g1 a h2 (hC _), stepC L.2 hz L.1 h3 g3 b h2 a⟩
theorem valC {cs cs' : List Cpx} {z z' : Cpx} (ok : CsOk cs) (hz : Lt64 z) (hl : cs'.length = cs.length) (hC : ∀ i, CL (nth cs i) (nth cs' i)) (h2 : CL z z') : ∀ {n : Nat} {v v' : Cpx}, ValN cs z n v → ValN cs' z' n v' → CL v v'
  | 0, _, _, h1, g1 => by subst h1; subst g1; rw [hl]; exact hC _
  | n + 1, _, _, ⟨v0, h, h1⟩, ⟨v0', g, g1⟩ => by
    rw [hl] at g1
    exact stepC (h.lt ok) hz (nthOk ok _) h1 g1 (valC ok hz hl hC h2 h g) h2 (hC _)
theorem foldC {R : Cpx → Cpx → Cpx → Prop} (hR : ∀ y d x y' d' x', Lt64 y → Lt64 d → Lt64 d' → R y d x → R y' d' x' → CL y y' → CL d d' → CL x x') (hlt : ∀ y d x, R y d x → Lt64 x) {zs zs' : List Cpx} (ok : CsOk zs) (ok' : CsOk zs') (hC : ∀ i, CL (nth zs i) (nth zs' i)) {i : Nat} {s s' : Cpx} (hs : Lt64 s) (hS : CL s s') : ∀ {k : Nat} {x x' : Cpx}, FoldS R zs i s k x → FoldS R zs' i s' k x' → CL x x'
  | 0, _, _, h1, g1 => by subst h1; subst g1; exact hS
  | k + 1, x, x', ⟨y, h, a⟩, ⟨y', g, b⟩ => by
    have ih := foldC hR hlt ok ok' hC hs hS h g
    rcases a with ⟨ha, rfl⟩ | ⟨ha, d, h1, h2⟩
    · rcases b with ⟨hb, rfl⟩ | ⟨hb, d', g1, g2⟩
      · exact ih
      · exact absurd ha hb
    · rcases b with ⟨hb, rfl⟩ | ⟨hb, d', g1, g2⟩
      · exact absurd hb ha
      · exact hR _ _ _ _ _ _ (FoldS.lt hs hlt h) ⟨h1.1.lt, h1.2.lt⟩ ⟨g1.1.lt, g1.2.lt⟩ h2 g2 ih (subC (nthOk ok _) (nthOk ok _) (nthOk ok' _) h1 g1 (hC _) (hC _))
theorem newtonC {cs cs' : List Cpx} {z z' x x' : Cpx} (ok : CsOk cs) (ok' : CsOk cs') (hz : Lt64 z) (hl : cs'.length = cs.length) (hC : ∀ i, CL (nth cs i) (nth cs' i)) (h2 : CL z z') (h : NewtonR cs z x) (g : NewtonR cs' z' x') : CL x x' := by
  obtain ⟨v, s, q, h0, h1, h3⟩ := h
  obtain ⟨v', s', q', g0, g1, g3⟩ := g
  have L' := g0.lt ok'
  rw [hl] at g0
  have ⟨a, b⟩ := bothC ok hz hl hC h2 h0 g0
  have L := h0.lt ok
  exact subC hz ⟨h1.lt.1, h1.lt.2⟩ ⟨g1.lt.1, g1.lt.2⟩ h3 g3 h2 (divC L.1 L.2 L'.1 h1 g1 a b)
theorem weierC {cs cs' zs zs' : List Cpx} {i : Int} {x x' : Cpx} (ok : CsOk cs) (ok' : CsOk cs') (okz : CsOk zs) (okz' : CsOk zs') (hl : cs'.length = cs.length) (hlz : zs'.length = zs.length) (hC : ∀ i, CL (nth cs i) (nth cs' i)) (hZ : ∀ i, CL (nth zs i) (nth zs' i)) (h : WeierR cs zs i x) (g : WeierR cs' zs' i x') : CL x x' := by
  obtain ⟨d, v, q, h0, h1, h2, h3⟩ := h
  obtain ⟨d', v', q', g0, g1, g2, g3⟩ := g
  have Lv' := g1.lt ok'
  rw [hl] at g0 g1
  rw [hlz] at g0
  have Ld := FoldS.lt (nthOk ok _) MulS.lt h0
  have D := foldC (fun _ _ _ _ _ _ hy hd _ a b c e => mulC hy hd a b c e) MulS.lt okz okz' hZ (nthOk ok _) (hC _) h0 g0
  exact subC (nthOk okz _) ⟨h2.lt.1, h2.lt.2⟩ ⟨g2.lt.1, g2.lt.2⟩ h3 g3 (hZ _) (divC (h1.lt ok) Ld Lv' h2 g2 (valC ok (nthOk okz _) hl hC (hZ _) h1 g1) D)
theorem invC (y d x y' d' x' : Cpx) (hy : Lt64 y) (hd : Lt64 d) (hd' : Lt64 d') (h : InvS y d x) (g : InvS y' d' x') (h1 : CL y y') (h2 : CL d d') : CL x x' := by
  obtain ⟨q, e1, e2⟩ := h
  obtain ⟨q', f1, f2⟩ := g
  exact addC hy ⟨e1.lt.1, e1.lt.2⟩ e2 f2 h1 (divC ⟨by decide, by decide⟩ hd ⟨by decide, by decide⟩ e1 f1 oneC h2)
theorem aberthC {cs cs' zs zs' : List Cpx} {i : Int} {x x' : Cpx} (ok : CsOk cs) (ok' : CsOk cs') (okz : CsOk zs) (okz' : CsOk zs') (hl : cs'.length = cs.length) (hlz : zs'.length = zs.length) (hC : ∀ i, CL (nth cs i) (nth cs' i)) (hZ : ∀ i, CL (nth zs i) (nth zs' i)) (h : AberthR cs zs i x) (g : AberthR cs' zs' i x') : CL x x' := by
  obtain ⟨v, s, q, a, p, r, t, h0, h1, h2, h3, h4, h5, h6⟩ := h
  obtain ⟨v', s', q', a', p', r', t', g0, g1, g2, g3, g4, g5, g6⟩ := g
  have L' := g0.lt ok'
  rw [hl] at g0
  rw [hlz] at g2
  have ⟨A, B⟩ := bothC ok (nthOk okz _) hl hC (hZ _) h0 g0
  have L := h0.lt ok
  have Q := divC L.1 L.2 L'.1 h1 g1 A B
  have la : Lt64 a := FoldS.lt ⟨by decide, by decide⟩ InvS.lt h2
  have F := foldC invC InvS.lt okz okz' hZ ⟨by decide, by decide⟩ nullC h2 g2
  have P := mulC ⟨h1.lt.1, h1.lt.2⟩ la h3 g3 Q F
  have S := subC ⟨by decide, by decide⟩ ⟨h3.lt.1, h3.lt.2⟩ ⟨g3.lt.1, g3.lt.2⟩ h4 g4 oneC P
  have T := divC ⟨h1.lt.1, h1.lt.2⟩ ⟨h4.1.lt, h4.2.lt⟩ ⟨g1.lt.1, g1.lt.2⟩ h5 g5 Q S
  exact subC (nthOk okz _) ⟨h5.lt.1, h5.lt.2⟩ ⟨g5.lt.1, g5.lt.2⟩ h6 g6 (hZ _) T
theorem wayC {way : Int} {cs cs' zs zs' : List Cpx} {i : Int} {x x' : Cpx} (ok : CsOk cs) (ok' : CsOk cs') (okz : CsOk zs) (okz' : CsOk zs') (hl : cs'.length = cs.length) (hlz : zs'.length = zs.length) (hC : ∀ i, CL (nth cs i) (nth cs' i)) (hZ : ∀ i, CL (nth zs i) (nth zs' i)) (h : WayR way cs zs i x) (g : WayR way cs' zs' i x') : CL x x' := by
  rcases h with ⟨e, h⟩ | ⟨e, h⟩ | ⟨e, h⟩ <;> rcases g with ⟨f, g⟩ | ⟨f, g⟩ | ⟨f, g⟩ <;> first | exact newtonC ok ok' (nthOk okz _) hl hC (hZ _) h g | exact weierC ok ok' okz okz' hl hlz hC hZ h g | exact aberthC ok ok' okz okz' hl hlz hC hZ h g | omega
end Go.Proofs.YtokmommlabdcdaaGreat
