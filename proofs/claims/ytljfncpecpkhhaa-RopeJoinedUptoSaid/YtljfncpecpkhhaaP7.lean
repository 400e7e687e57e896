/-
  Parts of a walk, joined: O11. No condition.
-/
import Derived.Test.YtljfncpecpkhhaaP6
set_option linter.all false
/-
  The walks of the laws RopeJoined and RopeHeals. No condition.
-/
namespace Go.Eng
theorem slice_cases (s : List UInt8) (f t : Int) : (∃ e, sliceR s f t = .error e ∧ e = 5) ∨ (sliceR s f t = .ok ((s.take t.toNat).drop f.toNat) ∧ 0 ≤ f ∧ f ≤ t ∧ t ≤ s.length) := by
  unfold sliceR
  by_cases h : f < 0 ∨ t < f ∨ (s.length : Int) < t
  · rw [if_pos h]; exact .inl ⟨5, rfl, rfl⟩
  · rw [if_neg h]; exact .inr ⟨rfl, by omega, by omega, by omega⟩
theorem slice_slice {s : List UInt8} {f t i o : Int} (h1 : 0 ≤ f ∧ f ≤ t ∧ t ≤ s.length) (h2 : 0 ≤ i ∧ i ≤ o ∧ o ≤ ((s.take t.toNat).drop f.toNat).length) :
    sliceR s (f + i) (f + o) = .ok ((((s.take t.toNat).drop f.toNat).take o.toNat).drop i.toNat) ∧ f + o ≤ s.length := by
  have hl : ((s.take t.toNat).drop f.toNat).length = t.toNat - f.toNat := by simp; omega
  unfold sliceR
  rw [if_neg (by omega)]
  refine ⟨?_, by omega⟩
  congr 1
  rw [List.take_drop, List.take_take, List.drop_drop, Nat.min_eq_left (by omega), show (f + o).toNat = f.toNat + o.toNat by omega, show (f + i).toNat = f.toNat + i.toNat by omega]
end Go.Eng
namespace Go.Proofs.Ytljfncpecpkhhaa
open Go Go.Eng
set_option maxRecDepth 100000
set_option maxHeartbeats 4000000
set_option linter.all false
attribute [local irreducible] WL WC WQ QFun QLoop Does Q1 QRound QAssign Go.Addr.add
theorem works_true {w0 : World} {m0 m : Mem} {H : SHeap} (hle : m0.le m) : Does Try.prog 11 #[] w0 m H (fun v m' H' => m0.le m' ∧ H' = H ∧ v = .bool true) :=
  (works_any w0 m H).mono fun v m' H' ⟨h1, h2, h3⟩ => ⟨hle.trans h1, h2, h3⟩
theorem sq_O11_1 {G : Prop} (h : G := by (repeat (first | (refine sp ?_; (repeat intro zzc)) | (refine iF 15 rfl ?_; refine w_callG Try.func15 ?_ (hs := text_any _ _ _ (by assumption))) | (refine iF 14 rfl ?_; refine w_callG Try.func14 ?_ (hs := same_any _ _ _ (by assumption) (by assumption))))); exact WQ.q1 rfl) : G := h
theorem st_O11_1 {G G' : Prop} (next : G') (h : Bx G' → G := by intro zzn; (first | ((refine st ?_; (repeat intro zzc)); (try ((first | (refine iF 15 rfl ?_; refine w_callG Try.func15 ?_ (hs := text_any _ _ _ (by assumption))) | (refine iF 14 rfl ?_; refine w_callG Try.func14 ?_ (hs := same_any _ _ _ (by assumption) (by assumption))) | ((refine iDraw ?_; (first | refine WC.drawAll rfl (by decide +kernel) ?_ | refine WC.draw 1 rfl (by decide +kernel) ?_ | refine WC.draw 2 rfl (by decide +kernel) ?_ | refine WC.draw 3 rfl (by decide +kernel) ?_ | refine WC.draw 4 rfl (by decide +kernel) ?_ | refine WC.draw 5 rfl (by decide +kernel) ?_ | refine WC.draw 6 rfl (by decide +kernel) ?_ | refine WC.draw 7 rfl (by decide +kernel) ?_ | refine WC.draw 8 rfl (by decide +kernel) ?_ | refine WC.draw 9 rfl (by decide +kernel) ?_ | refine WC.draw 10 rfl (by decide +kernel) ?_ | refine WC.draw 11 rfl (by decide +kernel) ?_ | refine WC.draw 12 rfl (by decide +kernel) ?_ | refine WC.draw 13 rfl (by decide +kernel) ?_ | refine WC.draw 14 rfl (by decide +kernel) ?_ | refine WC.draw 15 rfl (by decide +kernel) ?_ | refine WC.draw 16 rfl (by decide +kernel) ?_ | refine WC.draw 17 rfl (by decide +kernel) ?_ | refine WC.draw 18 rfl (by decide +kernel) ?_ | refine WC.draw 19 rfl (by decide +kernel) ?_ | refine WC.draw 20 rfl (by decide +kernel) ?_ | refine WC.draw 21 rfl (by decide +kernel) ?_ | refine WC.draw 22 rfl (by decide +kernel) ?_ | refine WC.draw 23 rfl (by decide +kernel) ?_ | refine WC.draw 24 rfl (by decide +kernel) ?_)); (repeat (refine WD.cons rfl (fun c h => by cases h) sq_O11_1 ?_)); refine WD.nil ?_)); (try (refine st ?_; (repeat intro zzc)))))) | ((first | (refine iF 15 rfl ?_; refine w_callG Try.func15 ?_ (hs := text_any _ _ _ (by assumption))) | (refine iF 14 rfl ?_; refine w_callG Try.func14 ?_ (hs := same_any _ _ _ (by assumption) (by assumption))) | ((refine iDraw ?_; (first | refine WC.drawAll rfl (by decide +kernel) ?_ | refine WC.draw 1 rfl (by decide +kernel) ?_ | refine WC.draw 2 rfl (by decide +kernel) ?_ | refine WC.draw 3 rfl (by decide +kernel) ?_ | refine WC.draw 4 rfl (by decide +kernel) ?_ | refine WC.draw 5 rfl (by decide +kernel) ?_ | refine WC.draw 6 rfl (by decide +kernel) ?_ | refine WC.draw 7 rfl (by decide +kernel) ?_ | refine WC.draw 8 rfl (by decide +kernel) ?_ | refine WC.draw 9 rfl (by decide +kernel) ?_ | refine WC.draw 10 rfl (by decide +kernel) ?_ | refine WC.draw 11 rfl (by decide +kernel) ?_ | refine WC.draw 12 rfl (by decide +kernel) ?_ | refine WC.draw 13 rfl (by decide +kernel) ?_ | refine WC.draw 14 rfl (by decide +kernel) ?_ | refine WC.draw 15 rfl (by decide +kernel) ?_ | refine WC.draw 16 rfl (by decide +kernel) ?_ | refine WC.draw 17 rfl (by decide +kernel) ?_ | refine WC.draw 18 rfl (by decide +kernel) ?_ | refine WC.draw 19 rfl (by decide +kernel) ?_ | refine WC.draw 20 rfl (by decide +kernel) ?_ | refine WC.draw 21 rfl (by decide +kernel) ?_ | refine WC.draw 22 rfl (by decide +kernel) ?_ | refine WC.draw 23 rfl (by decide +kernel) ?_ | refine WC.draw 24 rfl (by decide +kernel) ?_)); (repeat (refine WD.cons rfl (fun c h => by cases h) sq_O11_1 ?_)); refine WD.nil ?_)); (try (refine st ?_; (repeat intro zzc))))); (repeat ((first | (refine iF 15 rfl ?_; refine w_callG Try.func15 ?_ (hs := text_any _ _ _ (by assumption))) | (refine iF 14 rfl ?_; refine w_callG Try.func14 ?_ (hs := same_any _ _ _ (by assumption) (by assumption))) | ((refine iDraw ?_; (first | refine WC.drawAll rfl (by decide +kernel) ?_ | refine WC.draw 1 rfl (by decide +kernel) ?_ | refine WC.draw 2 rfl (by decide +kernel) ?_ | refine WC.draw 3 rfl (by decide +kernel) ?_ | refine WC.draw 4 rfl (by decide +kernel) ?_ | refine WC.draw 5 rfl (by decide +kernel) ?_ | refine WC.draw 6 rfl (by decide +kernel) ?_ | refine WC.draw 7 rfl (by decide +kernel) ?_ | refine WC.draw 8 rfl (by decide +kernel) ?_ | refine WC.draw 9 rfl (by decide +kernel) ?_ | refine WC.draw 10 rfl (by decide +kernel) ?_ | refine WC.draw 11 rfl (by decide +kernel) ?_ | refine WC.draw 12 rfl (by decide +kernel) ?_ | refine WC.draw 13 rfl (by decide +kernel) ?_ | refine WC.draw 14 rfl (by decide +kernel) ?_ | refine WC.draw 15 rfl (by decide +kernel) ?_ | refine WC.draw 16 rfl (by decide +kernel) ?_ | refine WC.draw 17 rfl (by decide +kernel) ?_ | refine WC.draw 18 rfl (by decide +kernel) ?_ | refine WC.draw 19 rfl (by decide +kernel) ?_ | refine WC.draw 20 rfl (by decide +kernel) ?_ | refine WC.draw 21 rfl (by decide +kernel) ?_ | refine WC.draw 22 rfl (by decide +kernel) ?_ | refine WC.draw 23 rfl (by decide +kernel) ?_ | refine WC.draw 24 rfl (by decide +kernel) ?_)); (repeat (refine WD.cons rfl (fun c h => by cases h) sq_O11_1 ?_)); refine WD.nil ?_)); (try (refine st ?_; (repeat intro zzc))))); (repeat revert zzc); exact zzn.out) : G := h ⟨next⟩
theorem ropeJoined_any (a b c : List UInt8) (f t i o : Int) (ha : a.length ≤ 1048576) (hb : b.length ≤ 1048576) (hc : c.length ≤ 1048576) (w0 : World) (m : Mem) (H : SHeap) :
    Does Try.prog 3 #[str a, str b, str c, .int .i64 f, .int .i64 t, .int .i64 i, .int .i64 o] w0 m H (fun v m' _ => v = .bool true ∧ m.le m') := by
  refine Does.of_body (args := [str a, str b, str c, .int .i64 f, .int .i64 t, .int .i64 i, .int .i64 o]) Try.func3 rfl Try.ntmps3 rfl ?_
  (try (refine st_O11_1 ?_; intros))
  refine w_callF Try.func11 ?_ (hs := works_any _ _ _)
  rintro v m0 H ⟨hle0, rfl, rfl⟩
  (try (refine st_O11_1 ?_; intros))
  refine w_callF Try.func12 ?_ (hs := new_any a (by omega) _ _ _)
  rintro v m1 H ⟨hle1, rfl, hv⟩
  unfold newV at hv
  rw [if_neg (by omega)] at hv
  obtain ⟨x, rfl, hx⟩ := hv
  (try (refine st_O11_1 ?_; intros))
  refine w_callF Try.func12 ?_ (hs := new_any b (by omega) _ _ _)
  rintro v m2 H ⟨hle2, rfl, hv⟩
  unfold newV at hv
  rw [if_neg (by omega)] at hv
  obtain ⟨y, rfl, hy⟩ := hv
  replace hx := hx.le hle2
  (try (refine st_O11_1 ?_; intros))
  refine w_callF Try.func12 ?_ (hs := new_any c (by omega) _ _ _)
  rintro v m3 H ⟨hle3, rfl, hv⟩
  unfold newV at hv
  rw [if_neg (by omega)] at hv
  obtain ⟨z, rfl, hz⟩ := hv
  replace hx := hx.le hle3
  replace hy := hy.le hle3
  have hm : m.le m3 := hle0.trans (hle1.trans (hle2.trans hle3))
  clear hle0 hle1 hle2 hle3
  (try (refine st_O11_1 ?_; intros))
  refine w_callF Try.func13 ?_ (hs := join_any _ _ _ hx hy)
  rintro v m4 H ⟨hle4, rfl, hv⟩
  unfold joinRR at hv
  rw [if_neg (by omega)] at hv
  obtain ⟨xy, rfl, hxy⟩ := hv
  replace hx := hx.le hle4
  replace hy := hy.le hle4
  replace hz := hz.le hle4
  (try (refine st_O11_1 ?_; intros))
  refine w_callF Try.func13 ?_ (hs := join_any _ _ _ hy hz)
  rintro v m5 H ⟨hle5, rfl, hv⟩
  unfold joinRR at hv
  rw [if_neg (by omega)] at hv
  obtain ⟨yz, rfl, hyz⟩ := hv
  replace hx := hx.le hle5
  replace hz := hz.le hle5
  replace hxy := hxy.le hle5
  (try (refine st_O11_1 ?_; intros))
  refine w_callF Try.func13 ?_ (hs := join_any _ _ _ hxy hz)
  rintro v m6 H ⟨hle6, rfl, hv⟩
  unfold joinRR at hv
  rw [if_neg (by simp; omega)] at hv
  obtain ⟨p, rfl, hp⟩ := hv
  replace hx := hx.le hle6
  replace hyz := hyz.le hle6
  (try (refine st_O11_1 ?_; intros))
  refine w_callF Try.func13 ?_ (hs := join_any _ _ _ hx hyz)
  rintro v m7 H ⟨hle7, rfl, hv⟩
  unfold joinRR at hv
  rw [if_neg (by simp; omega)] at hv
  obtain ⟨q, rfl, hq⟩ := hv
  rw [← List.append_assoc] at hq
  replace hp := hp.le hle7
  have hm : m.le m7 := hm.trans (hle4.trans (hle5.trans (hle6.trans hle7)))
  clear hle4 hle5 hle6 hle7 hx hyz hxy hy hz
  have hL : (a ++ b ++ c).length = a.length + b.length + c.length := by simp; omega
  have he : a ++ b ++ c = a ++ b ++ c := rfl
  have h2 : a.length + b.length ≤ 2097152 := by omega
  have h3 : (a ++ b).length + c.length ≤ 5000000 := by simp; omega
  (try (refine st_O11_1 ?_; intros))
  generalize a ++ b ++ c = L at *
  refine w_callF Try.func16 ?_ (hs := slice_any _ _ _ hp)
  rintro v m8 H ⟨hle8, rfl, hv⟩
  replace hp := hp.le hle8
  rcases slice_cases L f t with ⟨e, h, rfl⟩ | ⟨h, hb1⟩
  · rw [h] at hv
    cases hv
    have hnil : (none : Option Addr).isNone = true := rfl
    (try (refine st_O11_1 ?_; intros))
    refine w_callF Try.func11 ?_ (hs := works_true (hm.trans hle8))
    rintro v m9 H ⟨hle9, rfl, rfl⟩
    (try (refine st_O11_1 ?_; intros))
    exact q_fin0 (H0 := H) ⟨rfl, hle9⟩ (hd := zpk)
  rw [h] at hv
  obtain ⟨s, rfl, hs⟩ := hv
  (try (refine st_O11_1 ?_; intros))
  refine w_callF Try.func16 ?_ (hs := slice_any _ _ _ hs)
  rintro v m9 H ⟨hle9, rfl, hv⟩
  replace hp := hp.le hle9
  rcases slice_cases ((L.take t.toNat).drop f.toNat) i o with ⟨e, h, rfl⟩ | ⟨h, hb2⟩
  · rw [h] at hv
    cases hv
    have hnil : (none : Option Addr).isNone = true := rfl
    (try (refine st_O11_1 ?_; intros))
    refine w_callF Try.func11 ?_ (hs := works_true (hm.trans (hle8.trans hle9)))
    rintro v m9 H ⟨hle9, rfl, rfl⟩
    (try (refine st_O11_1 ?_; intros))
    exact q_fin0 (H0 := H) ⟨rfl, hle9⟩ (hd := zpk)
  rw [h] at hv
  obtain ⟨t2, rfl, ht2⟩ := hv
  obtain ⟨h5, hb3⟩ := slice_slice hb1 hb2
  (try (refine st_O11_1 ?_; intros))
  refine w_callF Try.func16 ?_ (hs := slice_any _ _ _ hp)
  rintro v m10 H ⟨hle10, rfl, hv⟩
  rw [h5] at hv
  obtain ⟨u, rfl, hu⟩ := hv
  replace ht2 := ht2.le hle10
  generalize ((L.take t.toNat).drop f.toNat).take o.toNat = K at *
  have he2 : K.drop i.toNat = K.drop i.toNat := rfl
  (try (refine st_O11_1 ?_; intros))
  refine w_callF Try.func11 ?_ (hs := works_true (hm.trans (hle8.trans (hle9.trans hle10))))
  rintro v m11 H ⟨hle11, rfl, rfl⟩
  (try (refine st_O11_1 ?_; intros))
  exact q_fin0 (H0 := H) ⟨rfl, hle11⟩ (hd := zpk)
end Go.Proofs.Ytljfncpecpkhhaa

