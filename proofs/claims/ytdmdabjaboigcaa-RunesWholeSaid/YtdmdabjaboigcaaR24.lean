/-
  The walks of the iterator Back, of runes.Cut and of the reference's. No condition.
-/
import Derived.Test.YtdmdabjaboigcaaR23
import Derived.Test.YtdmdabjaboigcaaRT8
namespace Go.Proofs.Ytdmdabjaboigcaa
open Go Go.Eng
set_option maxRecDepth 100000
set_option maxHeartbeats 4000000
set_option linter.all false
attribute [local irreducible] WL WC WQ QFun QLoop Does Q1 QRound QAssign Go.Addr.add
theorem last_is {l : List UInt8} {p : Pc} (h : lastP l = p) (hl : l.length ≤ 9223372036854775804) (h0 : 0 < l.length) (w0 : World) (m : Mem) (H : SHeap) :
    Does Try.prog 69 #[str l] w0 m H (Gives p.v m H) := by subst h; exact last_any l hl h0 w0 m H
theorem back_seq (l : List UInt8) (hl : l.length ≤ 9223372036854775804) (b : Nat) : SeqC Try.prog 75 [.pointer (some ⟨b, 0, none⟩)] (fun p : Pc => [p.v]) (pieces l).reverse (TextAt b l) := by
  intro w0 lp J Jx m H hcap h0 hY
  have hcap' : m b = some (.cells [str l].toArray 9 (0, 0)) := hcap
  refine Does.of_body Try.func75 rfl Try.ntmps75 rfl ?_
  (try (refine st ?_; intros))
  refine WC.loopH [(3, .int .i64 ((l.length) : Int)), (0, .func (.yield lp) #[] #[]), (1, .pointer (some ⟨b, 0, none⟩))] ?_ ?_ (fun j r ds m' H' => ∃ (n : Nat) (rest : (List Pc)) (mm : Mem) (H1 : SHeap), j = 2 * n ∧ r = [(3, .int .i64 (n : Int)), (0, .func (.yield lp) #[] #[]), (1, .pointer (some ⟨b, 0, none⟩))] ∧ ds = [] ∧ mm = m' ∧ H' = H1 ∧ (n ≤ l.length) ∧ (pieces l = rest ++ from_ l n) ∧ (m.le mm) ∧ (J (from_ l n).reverse mm H1)) (2 * (l.length)) ⟨l.length, pieces l, m, H, rfl, rfl, rfl, rfl, rfl, by omega, by rw [from_nil (by omega), List.append_nil], Mem.le.refl _, by rw [from_nil (by omega)]; exact h0⟩ ?_
  · (repeat (first | exact Env.Sub.nil | refine Env.Sub.cons rfl ?_))
  · exact (fun w h => Pick.sat (by iterate 60 (try (first | exact Pick.all | (apply Pick.take; (· (repeat (first | exact Out.here | apply Out.there)))) | apply Pick.drop))) h)
  rintro j r ds m' H' ⟨n, rest, mm, H1, rfl, rfl, rfl, rfl, rfl, hn, hp, hle, hJ⟩
  have hcap1 := hle _ _ hcap'
  rcases nil_or_snoc rest with rfl | ⟨r0, p, rfl⟩
  · have hn0 : n = 0 := by
      rcases Nat.eq_zero_or_pos n with h | h
      · exact h
      · exfalso
        have e := pieces_take hn hp
        rw [pieces, from_cons (by simp; omega)] at e; cases e
    subst hn0
    (try (refine st ?_; intros))
    apply WQ.finNorm
    · (first | (apply res_tmp; (· exact rfl); (· exact rfl)) | (apply res_cell; (· exact rfl); (· exact rfl); (· (first | (apply Loads.one; (· exact rfl); (· first | (apply Cell.blk; (· (repeat (first | exact List.Mem.head _ | apply List.Mem.tail))); (· exact rfl)) | (apply Cell.mem; (· assumption); (· exact rfl)))) | (apply Loads.whole; (· exact rfl); (· exact rfl); (· (repeat (first | exact List.Mem.head _ | apply List.Mem.tail))); (· exact rfl)) | (apply Loads.blk; (· exact rfl); (· exact rfl); (· (repeat (first | exact List.Mem.head _ | apply List.Mem.tail))); (· (repeat (first | exact Seg.nil | (apply Seg.cons; (· exact rfl)))))) | (apply Loads.row; (· (repeat (first | exact List.Mem.head _ | apply List.Mem.tail))); (· assumption); (· exact rfl); (· exact rfl); (· exact rfl); (· exact rfl)) | (apply Loads.row1; (· (repeat (first | exact List.Mem.head _ | apply List.Mem.tail))); (· assumption); (· exact rfl); (· exact rfl)) | (apply Loads.rowF; (· (repeat (first | exact List.Mem.head _ | apply List.Mem.tail))); (· assumption); (· exact rfl); (· exact rfl); (· exact rfl)) | (apply Loads.prow; (· assumption); (· assumption); (· exact rfl); (· exact rfl); (· exact rfl); (· exact rfl)) | (apply Loads.prow1; (· assumption); (· assumption); (· exact rfl); (· exact rfl)) | (apply Loads.prowF; (· assumption); (· assumption); (· exact rfl); (· exact rfl); (· exact rfl)) | (apply Loads.rrow; (· assumption); (· assumption); (· exact rfl); (· exact rfl); (· exact rfl); (· exact rfl)) | (apply Loads.rrow1; (· assumption); (· assumption); (· exact rfl); (· exact rfl)) | (apply Loads.rrowF; (· assumption); (· assumption); (· exact rfl); (· exact rfl); (· exact rfl)) | (apply Loads.rowS; (· (repeat (first | exact List.Mem.head _ | apply List.Mem.tail))); (· assumption); (· exact rfl); (· exact rfl); (· exact rfl); (· (repeat (first | exact Seg.nil | (apply Seg.cons; (· exact rfl))))))))) | (apply res_none; exact rfl) | (apply res_many; (· exact rfl); (· repeat (first | exact ResAll.nil | (apply ResAll.tmp; (· exact rfl)) | (apply ResAll.cell; (· exact rfl); (· (first | (apply Loads.one; (· exact rfl); (· first | (apply Cell.blk; (· (repeat (first | exact List.Mem.head _ | apply List.Mem.tail))); (· exact rfl)) | (apply Cell.mem; (· assumption); (· exact rfl)))) | (apply Loads.whole; (· exact rfl); (· exact rfl); (· (repeat (first | exact List.Mem.head _ | apply List.Mem.tail))); (· exact rfl)) | (apply Loads.blk; (· exact rfl); (· exact rfl); (· (repeat (first | exact List.Mem.head _ | apply List.Mem.tail))); (· (repeat (first | exact Seg.nil | (apply Seg.cons; (· exact rfl)))))) | (apply Loads.row; (· (repeat (first | exact List.Mem.head _ | apply List.Mem.tail))); (· assumption); (· exact rfl); (· exact rfl); (· exact rfl); (· exact rfl)) | (apply Loads.row1; (· (repeat (first | exact List.Mem.head _ | apply List.Mem.tail))); (· assumption); (· exact rfl); (· exact rfl)) | (apply Loads.rowF; (· (repeat (first | exact List.Mem.head _ | apply List.Mem.tail))); (· assumption); (· exact rfl); (· exact rfl); (· exact rfl)) | (apply Loads.prow; (· assumption); (· assumption); (· exact rfl); (· exact rfl); (· exact rfl); (· exact rfl)) | (apply Loads.prow1; (· assumption); (· assumption); (· exact rfl); (· exact rfl)) | (apply Loads.prowF; (· assumption); (· assumption); (· exact rfl); (· exact rfl); (· exact rfl)) | (apply Loads.rrow; (· assumption); (· assumption); (· exact rfl); (· exact rfl); (· exact rfl); (· exact rfl)) | (apply Loads.rrow1; (· assumption); (· assumption); (· exact rfl); (· exact rfl)) | (apply Loads.rrowF; (· assumption); (· assumption); (· exact rfl); (· exact rfl); (· exact rfl)) | (apply Loads.rowS; (· (repeat (first | exact List.Mem.head _ | apply List.Mem.tail))); (· assumption); (· exact rfl); (· exact rfl); (· exact rfl); (· (repeat (first | exact Seg.nil | (apply Seg.cons; (· exact rfl))))))))))); (· exact rfl)))
    · exact ⟨hle, .inl (by rw [show (pieces l).reverse = (from_ l 0).reverse from rfl]; exact hJ)⟩
  · rw [List.append_assoc] at hp
    have hsp := pieces_split (pre := r0) (p := p) (post := from_ l n) (by rw [hp]; rfl)
    have hpt := pieces_take hn (by rw [hp, ← List.append_assoc])
    have hlast : lastP (l.take n) = p := by rw [lastP, hpt]; simp
    have hn0 : 0 < n := by
      rcases Nat.eq_zero_or_pos n with h | h
      · subst h
        have e : pieces (l.take 0) = [] := by rw [pieces, from_nil (by simp)]
        rw [e] at hpt; simp at hpt
      · exact h
    have hw := readP_w hsp.1
    rw [← hsp.2.1] at hw
    have hlt : p.at_ < n := by
      rcases Nat.lt_or_eq_of_le hn with h | h
      · have hm : readP l n ∈ from_ l (p.at_ + p.w) := by
          have e := hsp.2.2.1
          rw [from_cons hsp.1, ← hsp.2.1] at e
          simp only [List.cons.injEq, true_and] at e
          rw [← e, from_cons h]; exact List.mem_cons_self
        obtain ⟨A, B, e⟩ := List.append_of_mem hm
        have := (from_split l l.length _ (by omega) _ _ _ e).1
        rw [readP_at] at this; omega
      · omega
    have htl : (l.take n).length = n := by simp; omega
    (try (refine st ?_; intros))
    refine w_callF Try.func69 ?_ (hs := last_is hlast (by omega) (by omega) _ _ _)
    rintro _ mm H1 ⟨rfl, rfl, rfl⟩
    (try (refine st ?_; intros))
    have hD : (from_ l p.at_).reverse = (from_ l n).reverse ++ [p] := by rw [← hsp.2.2.1]; simp
    have hxs : (pieces l).reverse = (from_ l n).reverse ++ p :: r0.reverse := by rw [hp]; simp
    apply WL.yield
    · exact rfl
    · exact rfl
    · exact rfl
    · exact hY _ p _ hxs _ H1 [_] hJ hle
    · rintro m2 _ ⟨H2, rfl, hJ2, hle2⟩
      (try (refine st ?_; intros))
      refine WQ.next (2 * (p.at_)) ⟨p.at_, r0, m2, H2, rfl, rfl, rfl, rfl, rfl, ?_, ?_, ?_, ?_⟩ (by omega) (by (repeat (first | exact Env.Sub.nil | refine Env.Sub.cons rfl ?_))) (fun w h => Pick.sat (by iterate 60 (try (first | exact Pick.all | (apply Pick.take; (· (repeat (first | exact Out.here | apply Out.there)))) | apply Pick.drop))) h)
      · omega
      · rw [← hsp.2.2.1, hp]; simp
      · exact hle.trans hle2
      · rw [hD]; exact hJ2
    · rintro m2 _ ⟨H2, rfl, hJ2, hle2⟩
      (try (refine st ?_; intros))
      (refine q_fin0 ?_)
      exact ⟨hle.trans hle2, .inr ⟨(from_ l n).reverse ++ [p], ⟨r0.reverse, by rw [hxs]; simp⟩, hJ2⟩⟩
theorem cut_any (l : List UInt8) (n : Int) (hl : l.length ≤ 1000000000) (hn : -9223372036854775808 ≤ n ∧ n ≤ 9223372036854775807) (w0 : World) (m : Mem) (H : SHeap) :
    Does Try.prog 50 #[str l, .int .i64 n] w0 m H (Gives (.tuple #[str (l.take (cutK l n)), str (l.drop (cutK l n))]) m H) := by
  refine Does.of_body (args := [str l, .int .i64 n]) Try.func50 rfl Try.ntmps50 rfl ?_
  by_cases h0 : n ≤ 0
  · have hk : cutK l n = 0 := by rw [cutK, if_pos h0]
    rw [hk]
    (try (refine st ?_; intros))
    (refine q_fin0 ?_)
    exact Gives.mk (by simp)
  · obtain ⟨N, rfl⟩ : ∃ N : Nat, n = N := ⟨n.toNat, by omega⟩
    have hk : cutK l N = (endsOf l).getD N l.length := by rw [cutK, if_neg h0]; simp
    rw [hk]
    (refine st ?_; intros; rename_i it)
    refine WC.loopH [(11, .pointer (some ⟨it, 0, none⟩)), (0, str l), (1, .int .i64 ((N : Int)))] ?_ ?_ (fun j r ds m' H' => ∃ (k : Nat) (pre : (List Pc)) (c : Int), j = l.length - k ∧ r = [(11, .pointer (some ⟨it, 0, none⟩)), (0, str l), (1, .int .i64 c)] ∧ ds = [] ∧ m = m' ∧ H' = .blk it (.stringIter ⟨l.toArray⟩ k) :: H ∧ (pieces l = pre ++ from_ l k) ∧ (pre.length ≤ N) ∧ (c = (N : Int) - pre.length) ∧ (k ≤ l.length)) (l.length - (0)) ⟨0, [], (N : Int), rfl, rfl, rfl, rfl, rfl, rfl, by simp, by simp, by omega⟩ ?_
    · (repeat (first | exact Env.Sub.nil | refine Env.Sub.cons rfl ?_))
    · exact (fun w h => Pick.sat (by iterate 60 (try (first | exact Pick.all | (apply Pick.take; (· (repeat (first | exact Out.here | apply Out.there)))) | apply Pick.drop))) h)
    rintro j r ds m' H' ⟨k, pre, c, rfl, rfl, rfl, rfl, rfl, hp, hN, hc, hkl⟩
    have hpl := pieces_length l
    by_cases hkl2 : k < l.length
    · have hw := readP_w hkl2
      have hwe := readP_w_eq l k
      rw [from_cons hkl2] at hp
      have hpre : pre.length ≤ (pieces l).length := by rw [hp]; simp
      by_cases hz : c = 0
      · have hk2 : (endsOf l).getD N l.length = k := by
          have e : N = pre.length := by omega
          rw [e, endsOf, hp]
          simp [List.getD_eq_getElem?_getD, readP_at]
        rw [hk2]
        (try (refine st ?_; intros))
        (refine q_fin0 ?_)
        exact Gives.mk rfl
      · (try (refine st ?_; intros))
        refine WQ.next (l.length - (k + (dl (l.drop k)).2)) ⟨k + (dl (l.drop k)).2, pre ++ [readP l k], _, rfl, rfl, rfl, rfl, rfl, ?_, ?_, ?_, ?_⟩ (by omega) (by (repeat (first | exact Env.Sub.nil | refine Env.Sub.cons rfl ?_))) (fun w h => Pick.sat (by iterate 60 (try (first | exact Pick.all | (apply Pick.take; (· (repeat (first | exact Out.here | apply Out.there)))) | apply Pick.drop))) h)
        · rw [hp, ← hwe]; simp
        · simp; omega
        · simp; omega
        · omega
    · rw [from_nil hkl2, List.append_nil] at hp
      have hk2 : (endsOf l).getD N l.length = l.length := by
        rw [endsOf, hp, List.getD_eq_getElem?_getD]
        by_cases e : N = pre.length
        · rw [e]; simp
        · rw [List.getElem?_eq_none (by simp; omega)]; rfl
      rw [hk2]
      (try (refine st ?_; intros))
      (refine q_fin0 ?_)
      exact Gives.mk (by simp)
theorem refEnds_es {l : List UInt8} {es : List (List Value)} (he : (endsOf l).map iV = es) (hl : l.length ≤ 5000000000000) (w0 : World) (m : Mem) (H : SHeap) :
    Does Try.prog 71 #[str l] w0 m H (MakesRow 3 1 es m H) := by subst he; exact refEnds_any l hl w0 m H
theorem refCut_any (l : List UInt8) (n : Int) (hl : l.length ≤ 1000000000) (hn : -9223372036854775808 ≤ n ∧ n ≤ 9223372036854775807) (w0 : World) (m : Mem) (H : SHeap) :
    Does Try.prog 51 #[str l, .int .i64 n] w0 m H (Gives (.tuple #[str (l.take (cutK l n)), str (l.drop (cutK l n))]) m H) := by
  refine Does.of_body (args := [str l, .int .i64 n]) Try.func51 rfl Try.ntmps51 rfl ?_
  have hel := ends_length l
  obtain ⟨es, hes⟩ : ∃ es, (endsOf l).map iV = es := ⟨_, rfl⟩
  have hesl : es.length = (endsOf l).length := by simp [← hes]
  have hne : 0 < (endsOf l).length := by simp [endsOf]
  obtain ⟨x, hx, hget, _, hmem, _⟩ := at_idx (xs := endsOf l) (f := iV) (i := (min (max n 0) ((es.length : Int) - 1)).toNat) (by omega)
  rw [hes] at hget
  have hxl := ends_le hmem
  have hk : cutK l n = x := by
    unfold cutK
    have hlast : (endsOf l)[(endsOf l).length - 1]? = some l.length := by simp [endsOf]
    split
    · rename_i h
      rw [show (min (max n 0) ((es.length : Int) - 1)).toNat = 0 by omega] at hx
      by_cases h1 : 0 < l.length
      · rw [endsOf, pieces, from_cons h1] at hx
        simp [readP_at] at hx; exact hx
      · rw [endsOf, pieces, from_nil h1] at hx
        simp at hx; omega
    · rename_i h
      rw [List.getD_eq_getElem?_getD]
      by_cases h1 : n.toNat < (endsOf l).length
      · rw [show (min (max n 0) ((es.length : Int) - 1)).toNat = n.toNat by omega] at hx
        rw [hx]; rfl
      · rw [show (min (max n 0) ((es.length : Int) - 1)).toNat = (endsOf l).length - 1 by omega, hlast] at hx
        rw [List.getElem?_eq_none (by omega)]
        simpa using hx
  rw [hk]
  (try (refine st ?_; intros))
  refine w_callF Try.func71 ?_ (hs := refEnds_es hes (by omega) _ _ _)
  rintro _ m _ ⟨a, cap, rfl, rfl, rfl⟩
  refine WL.rowSome (a := a) (by (repeat (first | exact List.Mem.head _ | apply List.Mem.tail))) (by omega) ?_
  rintro a0 rfl
  (try (refine st ?_; intros))
  (refine q_fin0 ?_)
  exact Gives.mk rfl
end Go.Proofs.Ytdmdabjaboigcaa
