/-
  Parts of a walk, joined: R23 R24 R25 RT12 EngS. No condition.
-/
import Derived.Test.YtdmdabjaboigcaaP7
import Derived.Test.YtdmdabjaboigcaaP1
import Derived.Test.YtdmdabjaboigcaaP4
/-
  The walk of the law RunesHolds. No condition.
-/
namespace Go.Proofs.Ytdmdabjaboigcaa
open Go Go.Eng
set_option maxRecDepth 100000
set_option maxHeartbeats 4000000
set_option linter.all false
attribute [local irreducible] WL WC WQ QFun QLoop Does Q1 QRound QAssign Go.Addr.add
theorem sq_R23_1 {G : Prop} (h : G := by (repeat (first | (refine sp ?_; (repeat intro zzc)) | (refine iF 15 rfl ?_; refine w_callG Try.func15 ?_ (hs := wakes_any _ _ _)) | (refine iF 42 rfl ?_; refine w_callG Try.func42 ?_ (hs := compare_any _ _ (by omega) (by omega) _ _ _)) | (refine iF 43 rfl ?_; refine w_callG Try.func43 ?_ (hs := refCompare_any _ _ (by omega) (by omega) _ _ _)) | (refine iF 44 rfl ?_; refine w_callG Try.func44 ?_ (hs := common_any _ _ (by omega) (by omega) _ _ _)) | (refine iF 45 rfl ?_; refine w_callG Try.func45 ?_ (hs := refCommon_any _ _ (by omega) (by omega) _ _ _)) | (refine iF 46 rfl ?_; refine w_callG Try.func46 ?_ (hs := index_any _ _ (by omega) _ _ _)) | (refine iF 47 rfl ?_; refine w_callG Try.func47 ?_ (hs := refIndex_any _ _ (by omega) _ _ _)))); exact WQ.q1 rfl) : G := h
theorem st_R23_1 {G G' : Prop} (next : G') (h : Bx G' → G := by intro zzn; (first | ((refine st ?_; (repeat intro zzc)); (try ((first | (refine iF 15 rfl ?_; refine w_callG Try.func15 ?_ (hs := wakes_any _ _ _)) | (refine iF 42 rfl ?_; refine w_callG Try.func42 ?_ (hs := compare_any _ _ (by omega) (by omega) _ _ _)) | (refine iF 43 rfl ?_; refine w_callG Try.func43 ?_ (hs := refCompare_any _ _ (by omega) (by omega) _ _ _)) | (refine iF 44 rfl ?_; refine w_callG Try.func44 ?_ (hs := common_any _ _ (by omega) (by omega) _ _ _)) | (refine iF 45 rfl ?_; refine w_callG Try.func45 ?_ (hs := refCommon_any _ _ (by omega) (by omega) _ _ _)) | (refine iF 46 rfl ?_; refine w_callG Try.func46 ?_ (hs := index_any _ _ (by omega) _ _ _)) | (refine iF 47 rfl ?_; refine w_callG Try.func47 ?_ (hs := refIndex_any _ _ (by omega) _ _ _)) | ((refine iDraw ?_; (first | refine WC.drawAll rfl (by decide +kernel) ?_ | refine WC.draw 1 rfl (by decide +kernel) ?_ | refine WC.draw 2 rfl (by decide +kernel) ?_ | refine WC.draw 3 rfl (by decide +kernel) ?_ | refine WC.draw 4 rfl (by decide +kernel) ?_ | refine WC.draw 5 rfl (by decide +kernel) ?_ | refine WC.draw 6 rfl (by decide +kernel) ?_ | refine WC.draw 7 rfl (by decide +kernel) ?_ | refine WC.draw 8 rfl (by decide +kernel) ?_ | refine WC.draw 9 rfl (by decide +kernel) ?_ | refine WC.draw 10 rfl (by decide +kernel) ?_ | refine WC.draw 11 rfl (by decide +kernel) ?_ | refine WC.draw 12 rfl (by decide +kernel) ?_ | refine WC.draw 13 rfl (by decide +kernel) ?_ | refine WC.draw 14 rfl (by decide +kernel) ?_ | refine WC.draw 15 rfl (by decide +kernel) ?_ | refine WC.draw 16 rfl (by decide +kernel) ?_ | refine WC.draw 17 rfl (by decide +kernel) ?_ | refine WC.draw 18 rfl (by decide +kernel) ?_ | refine WC.draw 19 rfl (by decide +kernel) ?_ | refine WC.draw 20 rfl (by decide +kernel) ?_ | refine WC.draw 21 rfl (by decide +kernel) ?_ | refine WC.draw 22 rfl (by decide +kernel) ?_ | refine WC.draw 23 rfl (by decide +kernel) ?_ | refine WC.draw 24 rfl (by decide +kernel) ?_)); (repeat (refine WD.cons rfl (fun c h => by cases h) sq_R23_1 ?_)); refine WD.nil ?_)); (try (refine st ?_; (repeat intro zzc)))))) | ((first | (refine iF 15 rfl ?_; refine w_callG Try.func15 ?_ (hs := wakes_any _ _ _)) | (refine iF 42 rfl ?_; refine w_callG Try.func42 ?_ (hs := compare_any _ _ (by omega) (by omega) _ _ _)) | (refine iF 43 rfl ?_; refine w_callG Try.func43 ?_ (hs := refCompare_any _ _ (by omega) (by omega) _ _ _)) | (refine iF 44 rfl ?_; refine w_callG Try.func44 ?_ (hs := common_any _ _ (by omega) (by omega) _ _ _)) | (refine iF 45 rfl ?_; refine w_callG Try.func45 ?_ (hs := refCommon_any _ _ (by omega) (by omega) _ _ _)) | (refine iF 46 rfl ?_; refine w_callG Try.func46 ?_ (hs := index_any _ _ (by omega) _ _ _)) | (refine iF 47 rfl ?_; refine w_callG Try.func47 ?_ (hs := refIndex_any _ _ (by omega) _ _ _)) | ((refine iDraw ?_; (first | refine WC.drawAll rfl (by decide +kernel) ?_ | refine WC.draw 1 rfl (by decide +kernel) ?_ | refine WC.draw 2 rfl (by decide +kernel) ?_ | refine WC.draw 3 rfl (by decide +kernel) ?_ | refine WC.draw 4 rfl (by decide +kernel) ?_ | refine WC.draw 5 rfl (by decide +kernel) ?_ | refine WC.draw 6 rfl (by decide +kernel) ?_ | refine WC.draw 7 rfl (by decide +kernel) ?_ | refine WC.draw 8 rfl (by decide +kernel) ?_ | refine WC.draw 9 rfl (by decide +kernel) ?_ | refine WC.draw 10 rfl (by decide +kernel) ?_ | refine WC.draw 11 rfl (by decide +kernel) ?_ | refine WC.draw 12 rfl (by decide +kernel) ?_ | refine WC.draw 13 rfl (by decide +kernel) ?_ | refine WC.draw 14 rfl (by decide +kernel) ?_ | refine WC.draw 15 rfl (by decide +kernel) ?_ | refine WC.draw 16 rfl (by decide +kernel) ?_ | refine WC.draw 17 rfl (by decide +kernel) ?_ | refine WC.draw 18 rfl (by decide +kernel) ?_ | refine WC.draw 19 rfl (by decide +kernel) ?_ | refine WC.draw 20 rfl (by decide +kernel) ?_ | refine WC.draw 21 rfl (by decide +kernel) ?_ | refine WC.draw 22 rfl (by decide +kernel) ?_ | refine WC.draw 23 rfl (by decide +kernel) ?_ | refine WC.draw 24 rfl (by decide +kernel) ?_)); (repeat (refine WD.cons rfl (fun c h => by cases h) sq_R23_1 ?_)); refine WD.nil ?_)); (try (refine st ?_; (repeat intro zzc))))); (repeat ((first | (refine iF 15 rfl ?_; refine w_callG Try.func15 ?_ (hs := wakes_any _ _ _)) | (refine iF 42 rfl ?_; refine w_callG Try.func42 ?_ (hs := compare_any _ _ (by omega) (by omega) _ _ _)) | (refine iF 43 rfl ?_; refine w_callG Try.func43 ?_ (hs := refCompare_any _ _ (by omega) (by omega) _ _ _)) | (refine iF 44 rfl ?_; refine w_callG Try.func44 ?_ (hs := common_any _ _ (by omega) (by omega) _ _ _)) | (refine iF 45 rfl ?_; refine w_callG Try.func45 ?_ (hs := refCommon_any _ _ (by omega) (by omega) _ _ _)) | (refine iF 46 rfl ?_; refine w_callG Try.func46 ?_ (hs := index_any _ _ (by omega) _ _ _)) | (refine iF 47 rfl ?_; refine w_callG Try.func47 ?_ (hs := refIndex_any _ _ (by omega) _ _ _)) | ((refine iDraw ?_; (first | refine WC.drawAll rfl (by decide +kernel) ?_ | refine WC.draw 1 rfl (by decide +kernel) ?_ | refine WC.draw 2 rfl (by decide +kernel) ?_ | refine WC.draw 3 rfl (by decide +kernel) ?_ | refine WC.draw 4 rfl (by decide +kernel) ?_ | refine WC.draw 5 rfl (by decide +kernel) ?_ | refine WC.draw 6 rfl (by decide +kernel) ?_ | refine WC.draw 7 rfl (by decide +kernel) ?_ | refine WC.draw 8 rfl (by decide +kernel) ?_ | refine WC.draw 9 rfl (by decide +kernel) ?_ | refine WC.draw 10 rfl (by decide +kernel) ?_ | refine WC.draw 11 rfl (by decide +kernel) ?_ | refine WC.draw 12 rfl (by decide +kernel) ?_ | refine WC.draw 13 rfl (by decide +kernel) ?_ | refine WC.draw 14 rfl (by decide +kernel) ?_ | refine WC.draw 15 rfl (by decide +kernel) ?_ | refine WC.draw 16 rfl (by decide +kernel) ?_ | refine WC.draw 17 rfl (by decide +kernel) ?_ | refine WC.draw 18 rfl (by decide +kernel) ?_ | refine WC.draw 19 rfl (by decide +kernel) ?_ | refine WC.draw 20 rfl (by decide +kernel) ?_ | refine WC.draw 21 rfl (by decide +kernel) ?_ | refine WC.draw 22 rfl (by decide +kernel) ?_ | refine WC.draw 23 rfl (by decide +kernel) ?_ | refine WC.draw 24 rfl (by decide +kernel) ?_)); (repeat (refine WD.cons rfl (fun c h => by cases h) sq_R23_1 ?_)); refine WD.nil ?_)); (try (refine st ?_; (repeat intro zzc))))); (repeat revert zzc); exact zzn.out) : G := h ⟨next⟩
theorem runesHolds_any (a b : List UInt8) (q : Int) (ha : a.length ≤ 1048576) (hb : b.length ≤ 1048576) (w0 : World) (m : Mem) (H : SHeap) :
    Does Try.prog 9 #[str a, str b, .int .i32 q] w0 m H (fun v m' _ => v = .bool true ∧ m.le m') := by
  refine Does.of_body (args := [str a, str b, .int .i32 q]) Try.func9 rfl Try.ntmps9 rfl ?_
  have hpl := pieces_length a
  have hpm : ((pieces a).map Pc.cs).length = (pieces a).length := by simp
  (try (refine st_R23_1 ?_; intros))
  refine w_callF Try.func19 ?_ (hs := refPieces_any _ (by omega) _ _ _)
  rintro _ m _ ⟨x0, cx, rfl, rfl, rfl⟩
  (try (refine st_R23_1 ?_; intros))
  refine WC.loopH [(30, .int .i64 ((0) : Int)), (29, .int .i64 (((pieces a).map Pc.cs).length : Int)), (28, .slice x0 ((pieces a).map Pc.cs).length cx), (0, str a), (1, str b), (2, .int .i32 q)] ?_ ?_ (fun j r ds m' H' => ∃ i, j = (pieces a).length - i ∧ r = [(30, .int .i64 (i : Int)), (29, .int .i64 (((pieces a).map Pc.cs).length : Int)), (28, .slice x0 ((pieces a).map Pc.cs).length cx), (0, str a), (1, str b), (2, .int .i32 q)] ∧ ds = [] ∧ m = m' ∧ H' = .row x0 cx 24 4 ((pieces a).map Pc.cs) :: H ∧ (i ≤ (pieces a).length)) ((pieces a).length - (0)) ⟨0, rfl, rfl, rfl, rfl, rfl, by omega⟩ ?_
  · (repeat (first | exact Env.Sub.nil | refine Env.Sub.cons rfl ?_))
  · exact (fun w h => Pick.sat (by iterate 60 (try (first | exact Pick.all | (apply Pick.take; (· (repeat (first | exact Out.here | apply Out.there)))) | apply Pick.drop))) h)
  rintro j r ds m' H' ⟨i, rfl, rfl, rfl, rfl, rfl, hi⟩
  by_cases hlt : i < (pieces a).length
  · obtain ⟨x, hx, hget, htk, hmem, hdr⟩ := at_idx (f := Pc.cs) hlt
    refine WC.rowSome (a := x0) (by (repeat (first | exact List.Mem.head _ | apply List.Mem.tail))) (by omega) ?_
    rintro x1 rfl
    (try (refine st_R23_1 ?_; intros))
    (first | refine c_ways (fun h64 => ?_) (fun h64 => ?_) | refine c_nways (fun h64 => ?_) (fun h64 => ?_) | refine w_gways (fun h64 => ?_) (fun h64 => ?_) | refine w_gnways (fun h64 => ?_) (fun h64 => ?_))
    · (try (refine st_R23_1 ?_; intros))
      (refine q_fin0 ?_)
      exact ⟨rfl, Mem.le.refl _⟩
    · (try (refine st_R23_1 ?_; intros))
      refine WQ.next ((pieces a).length - (i + 1)) ⟨i + 1, rfl, rfl, rfl, rfl, rfl, ?_⟩ (by omega) (by (repeat (first | exact Env.Sub.nil | refine Env.Sub.cons rfl ?_))) (fun w h => Pick.sat (by iterate 60 (try (first | exact Pick.all | (apply Pick.take; (· (repeat (first | exact Out.here | apply Out.there)))) | apply Pick.drop))) h)
      omega
  · (try (refine st_R23_1 ?_; intros))
    (refine q_fin0 ?_)
    exact ⟨rfl, Mem.le.refl _⟩
end Go.Proofs.Ytdmdabjaboigcaa

/-
  The walks of the iterator Back, of runes.Cut and of the reference's. No condition.
-/
namespace Go.Proofs.Ytdmdabjaboigcaa
open Go Go.Eng
set_option maxRecDepth 100000
set_option maxHeartbeats 4000000
set_option linter.all false
attribute [local irreducible] WL WC WQ QFun QLoop Does Q1 QRound QAssign Go.Addr.add
theorem last_is {l : List UInt8} {p : Pc} (h : lastP l = p) (hl : l.length ≤ 9223372036854775804) (h0 : 0 < l.length) (w0 : World) (m : Mem) (H : SHeap) :
    Does Try.prog 69 #[str l] w0 m H (Gives p.v m H) := by subst h; exact last_any l hl h0 w0 m H
theorem back_seq (l : List UInt8) (hl : l.length ≤ 9223372036854775804) (b : Nat) : SeqC Try.prog 75 [.pointer (some ⟨b, 0, none⟩)] (fun p : Pc => [p.v]) (pieces l).reverse (TextAt b l) := by
  intro w0 lp J Jx m H hcap h0 hY
  have hcap' : m b = some (.cells [str l].toArray 9 (0, 0)) := hcap
  refine Does.of_body Try.func75 rfl Try.ntmps75 rfl ?_
  (try (refine st ?_; intros))
  refine WC.loopH [(3, .int .i64 ((l.length) : Int)), (0, .func (.yield lp) #[] #[]), (1, .pointer (some ⟨b, 0, none⟩))] ?_ ?_ (fun j r ds m' H' => ∃ (n : Nat) (rest : (List Pc)) (mm : Mem) (H1 : SHeap), j = 2 * n ∧ r = [(3, .int .i64 (n : Int)), (0, .func (.yield lp) #[] #[]), (1, .pointer (some ⟨b, 0, none⟩))] ∧ ds = [] ∧ mm = m' ∧ H' = H1 ∧ (n ≤ l.length) ∧ (pieces l = rest ++ from_ l n) ∧ (m.le mm) ∧ (J (from_ l n).reverse mm H1)) (2 * (l.length)) ⟨l.length, pieces l, m, H, rfl, rfl, rfl, rfl, rfl, by omega, by rw [from_nil (by omega), List.append_nil], Mem.le.refl _, by rw [from_nil (by omega)]; exact h0⟩ ?_
  · (repeat (first | exact Env.Sub.nil | refine Env.Sub.cons rfl ?_))
  · exact (fun w h => Pick.sat (by iterate 60 (try (first | exact Pick.all | (apply Pick.take; (· (repeat (first | exact Out.here | apply Out.there)))) | apply Pick.drop))) h)
  rintro j r ds m' H' ⟨n, rest, mm, H1, rfl, rfl, rfl, rfl, rfl, hn, hp, hle, hJ⟩
  have hcap1 := hle _ _ hcap'
  rcases nil_or_snoc rest with rfl | ⟨r0, p, rfl⟩
  · have hn0 : n = 0 := by
      rcases Nat.eq_zero_or_pos n with h | h
      · exact h
      · exfalso
        have e := pieces_take hn hp
        rw [pieces, from_cons (by simp; omega)] at e; cases e
    subst hn0
    (try (refine st ?_; intros))
    apply WQ.finNorm
    · (first | (apply res_tmp; (· exact rfl); (· exact rfl)) | (apply res_cell; (· exact rfl); (· exact rfl); (· (first | (apply Loads.one; (· exact rfl); (· first | (apply Cell.blk; (· (repeat (first | exact List.Mem.head _ | apply List.Mem.tail))); (· exact rfl)) | (apply Cell.mem; (· assumption); (· exact rfl)))) | (apply Loads.whole; (· exact rfl); (· exact rfl); (· (repeat (first | exact List.Mem.head _ | apply List.Mem.tail))); (· exact rfl)) | (apply Loads.blk; (· exact rfl); (· exact rfl); (· (repeat (first | exact List.Mem.head _ | apply List.Mem.tail))); (· (repeat (first | exact Seg.nil | (apply Seg.cons; (· exact rfl)))))) | (apply Loads.row; (· (repeat (first | exact List.Mem.head _ | apply List.Mem.tail))); (first | (rotate_left; (· exact rfl); rotate_right; (· assumption)) | ((· assumption); (· exact rfl))); (· exact rfl); (· exact rfl); (· exact rfl)) | (apply Loads.row1; (· (repeat (first | exact List.Mem.head _ | apply List.Mem.tail))); (first | (rotate_left; (· exact rfl); rotate_right; (· assumption)) | ((· assumption); (· exact rfl))); (· exact rfl)) | (apply Loads.rowF; (· (repeat (first | exact List.Mem.head _ | apply List.Mem.tail))); (first | (rotate_left; (· exact rfl); rotate_right; (· assumption)) | ((· assumption); (· exact rfl))); (· exact rfl); (· exact rfl)) | (apply Loads.prow; (· assumption); (first | (rotate_left; (· exact rfl); rotate_right; (· assumption)) | ((· assumption); (· exact rfl))); (· exact rfl); (· exact rfl); (· exact rfl)) | (apply Loads.prow1; (· assumption); (first | (rotate_left; (· exact rfl); rotate_right; (· assumption)) | ((· assumption); (· exact rfl))); (· exact rfl)) | (apply Loads.prowF; (· assumption); (first | (rotate_left; (· exact rfl); rotate_right; (· assumption)) | ((· assumption); (· exact rfl))); (· exact rfl); (· exact rfl)) | (apply Loads.rrow; (· assumption); (first | (rotate_left; (· exact rfl); rotate_right; (· assumption)) | ((· assumption); (· exact rfl))); (· exact rfl); (· exact rfl); (· exact rfl)) | (apply Loads.rrow1; (· assumption); (first | (rotate_left; (· exact rfl); rotate_right; (· assumption)) | ((· assumption); (· exact rfl))); (· exact rfl)) | (apply Loads.rrowF; (· assumption); (first | (rotate_left; (· exact rfl); rotate_right; (· assumption)) | ((· assumption); (· exact rfl))); (· exact rfl); (· exact rfl)) | (apply Loads.rowS; (· (repeat (first | exact List.Mem.head _ | apply List.Mem.tail))); (first | (rotate_left; (· exact rfl); rotate_right; (· assumption)) | ((· assumption); (· exact rfl))); (· exact rfl); (· exact rfl); (· (repeat (first | exact Seg.nil | (apply Seg.cons; (· exact rfl))))))))) | (apply res_none; exact rfl) | (apply res_many; (· exact rfl); (· repeat (first | exact ResAll.nil | (apply ResAll.tmp; (· exact rfl)) | (apply ResAll.cell; (· exact rfl); (· (first | (apply Loads.one; (· exact rfl); (· first | (apply Cell.blk; (· (repeat (first | exact List.Mem.head _ | apply List.Mem.tail))); (· exact rfl)) | (apply Cell.mem; (· assumption); (· exact rfl)))) | (apply Loads.whole; (· exact rfl); (· exact rfl); (· (repeat (first | exact List.Mem.head _ | apply List.Mem.tail))); (· exact rfl)) | (apply Loads.blk; (· exact rfl); (· exact rfl); (· (repeat (first | exact List.Mem.head _ | apply List.Mem.tail))); (· (repeat (first | exact Seg.nil | (apply Seg.cons; (· exact rfl)))))) | (apply Loads.row; (· (repeat (first | exact List.Mem.head _ | apply List.Mem.tail))); (first | (rotate_left; (· exact rfl); rotate_right; (· assumption)) | ((· assumption); (· exact rfl))); (· exact rfl); (· exact rfl); (· exact rfl)) | (apply Loads.row1; (· (repeat (first | exact List.Mem.head _ | apply List.Mem.tail))); (first | (rotate_left; (· exact rfl); rotate_right; (· assumption)) | ((· assumption); (· exact rfl))); (· exact rfl)) | (apply Loads.rowF; (· (repeat (first | exact List.Mem.head _ | apply List.Mem.tail))); (first | (rotate_left; (· exact rfl); rotate_right; (· assumption)) | ((· assumption); (· exact rfl))); (· exact rfl); (· exact rfl)) | (apply Loads.prow; (· assumption); (first | (rotate_left; (· exact rfl); rotate_right; (· assumption)) | ((· assumption); (· exact rfl))); (· exact rfl); (· exact rfl); (· exact rfl)) | (apply Loads.prow1; (· assumption); (first | (rotate_left; (· exact rfl); rotate_right; (· assumption)) | ((· assumption); (· exact rfl))); (· exact rfl)) | (apply Loads.prowF; (· assumption); (first | (rotate_left; (· exact rfl); rotate_right; (· assumption)) | ((· assumption); (· exact rfl))); (· exact rfl); (· exact rfl)) | (apply Loads.rrow; (· assumption); (first | (rotate_left; (· exact rfl); rotate_right; (· assumption)) | ((· assumption); (· exact rfl))); (· exact rfl); (· exact rfl); (· exact rfl)) | (apply Loads.rrow1; (· assumption); (first | (rotate_left; (· exact rfl); rotate_right; (· assumption)) | ((· assumption); (· exact rfl))); (· exact rfl)) | (apply Loads.rrowF; (· assumption); (first | (rotate_left; (· exact rfl); rotate_right; (· assumption)) | ((· assumption); (· exact rfl))); (· exact rfl); (· exact rfl)) | (apply Loads.rowS; (· (repeat (first | exact List.Mem.head _ | apply List.Mem.tail))); (first | (rotate_left; (· exact rfl); rotate_right; (· assumption)) | ((· assumption); (· exact rfl))); (· exact rfl); (· exact rfl); (· (repeat (first | exact Seg.nil | (apply Seg.cons; (· exact rfl))))))))))); (· exact rfl)))
    · exact ⟨hle, .inl (by rw [show (pieces l).reverse = (from_ l 0).reverse from rfl]; exact hJ)⟩
  · rw [List.append_assoc] at hp
    have hsp := pieces_split (pre := r0) (p := p) (post := from_ l n) (by rw [hp]; rfl)
    have hpt := pieces_take hn (by rw [hp, ← List.append_assoc])
    have hlast : lastP (l.take n) = p := by rw [lastP, hpt]; simp
    have hn0 : 0 < n := by
      rcases Nat.eq_zero_or_pos n with h | h
      · subst h
        have e : pieces (l.take 0) = [] := by rw [pieces, from_nil (by simp)]
        rw [e] at hpt; simp at hpt
      · exact h
    have hw := readP_w hsp.1
    rw [← hsp.2.1] at hw
    have hlt : p.at_ < n := by
      rcases Nat.lt_or_eq_of_le hn with h | h
      · have hm : readP l n ∈ from_ l (p.at_ + p.w) := by
          have e := hsp.2.2.1
          rw [from_cons hsp.1, ← hsp.2.1] at e
          simp only [List.cons.injEq, true_and] at e
          rw [← e, from_cons h]; exact List.mem_cons_self
        obtain ⟨A, B, e⟩ := List.append_of_mem hm
        have := (from_split l l.length _ (by omega) _ _ _ e).1
        rw [readP_at] at this; omega
      · omega
    have htl : (l.take n).length = n := by simp; omega
    (try (refine st ?_; intros))
    refine w_callF Try.func69 ?_ (hs := last_is hlast (by omega) (by omega) _ _ _)
    rintro _ mm H1 ⟨rfl, rfl, rfl⟩
    (try (refine st ?_; intros))
    have hD : (from_ l p.at_).reverse = (from_ l n).reverse ++ [p] := by rw [← hsp.2.2.1]; simp
    have hxs : (pieces l).reverse = (from_ l n).reverse ++ p :: r0.reverse := by rw [hp]; simp
    apply WL.yield
    · exact rfl
    · exact rfl
    · exact rfl
    · exact hY _ p _ hxs _ H1 [_] hJ hle
    · rintro m2 _ ⟨H2, rfl, hJ2, hle2⟩
      (try (refine st ?_; intros))
      refine WQ.next (2 * (p.at_)) ⟨p.at_, r0, m2, H2, rfl, rfl, rfl, rfl, rfl, ?_, ?_, ?_, ?_⟩ (by omega) (by (repeat (first | exact Env.Sub.nil | refine Env.Sub.cons rfl ?_))) (fun w h => Pick.sat (by iterate 60 (try (first | exact Pick.all | (apply Pick.take; (· (repeat (first | exact Out.here | apply Out.there)))) | apply Pick.drop))) h)
      · omega
      · rw [← hsp.2.2.1, hp]; simp
      · exact hle.trans hle2
      · rw [hD]; exact hJ2
    · rintro m2 _ ⟨H2, rfl, hJ2, hle2⟩
      (try (refine st ?_; intros))
      (refine q_fin0 ?_)
      exact ⟨hle.trans hle2, .inr ⟨(from_ l n).reverse ++ [p], ⟨r0.reverse, by rw [hxs]; simp⟩, hJ2⟩⟩
theorem cut_any (l : List UInt8) (n : Int) (hl : l.length ≤ 1000000000) (hn : -9223372036854775808 ≤ n ∧ n ≤ 9223372036854775807) (w0 : World) (m : Mem) (H : SHeap) :
    Does Try.prog 50 #[str l, .int .i64 n] w0 m H (Gives (.tuple #[str (l.take (cutK l n)), str (l.drop (cutK l n))]) m H) := by
  refine Does.of_body (args := [str l, .int .i64 n]) Try.func50 rfl Try.ntmps50 rfl ?_
  by_cases h0 : n ≤ 0
  · have hk : cutK l n = 0 := by rw [cutK, if_pos h0]
    rw [hk]
    (try (refine st ?_; intros))
    (refine q_fin0 ?_)
    exact Gives.mk (by simp)
  · obtain ⟨N, rfl⟩ : ∃ N : Nat, n = N := ⟨n.toNat, by omega⟩
    have hk : cutK l N = (endsOf l).getD N l.length := by rw [cutK, if_neg h0]; simp
    rw [hk]
    (refine st ?_; intros; rename_i it)
    refine WC.loopH [(11, .pointer (some ⟨it, 0, none⟩)), (0, str l), (1, .int .i64 ((N : Int)))] ?_ ?_ (fun j r ds m' H' => ∃ (k : Nat) (pre : (List Pc)) (c : Int), j = l.length - k ∧ r = [(11, .pointer (some ⟨it, 0, none⟩)), (0, str l), (1, .int .i64 c)] ∧ ds = [] ∧ m = m' ∧ H' = .blk it (.stringIter ⟨l.toArray⟩ k) :: H ∧ (pieces l = pre ++ from_ l k) ∧ (pre.length ≤ N) ∧ (c = (N : Int) - pre.length) ∧ (k ≤ l.length)) (l.length - (0)) ⟨0, [], (N : Int), rfl, rfl, rfl, rfl, rfl, rfl, by simp, by simp, by omega⟩ ?_
    · (repeat (first | exact Env.Sub.nil | refine Env.Sub.cons rfl ?_))
    · exact (fun w h => Pick.sat (by iterate 60 (try (first | exact Pick.all | (apply Pick.take; (· (repeat (first | exact Out.here | apply Out.there)))) | apply Pick.drop))) h)
    rintro j r ds m' H' ⟨k, pre, c, rfl, rfl, rfl, rfl, rfl, hp, hN, hc, hkl⟩
    have hpl := pieces_length l
    by_cases hkl2 : k < l.length
    · have hw := readP_w hkl2
      have hwe := readP_w_eq l k
      rw [from_cons hkl2] at hp
      have hpre : pre.length ≤ (pieces l).length := by rw [hp]; simp
      by_cases hz : c = 0
      · have hk2 : (endsOf l).getD N l.length = k := by
          have e : N = pre.length := by omega
          rw [e, endsOf, hp]
          simp [List.getD_eq_getElem?_getD, readP_at]
        rw [hk2]
        (try (refine st ?_; intros))
        (refine q_fin0 ?_)
        exact Gives.mk rfl
      · (try (refine st ?_; intros))
        refine WQ.next (l.length - (k + (dl (l.drop k)).2)) ⟨k + (dl (l.drop k)).2, pre ++ [readP l k], _, rfl, rfl, rfl, rfl, rfl, ?_, ?_, ?_, ?_⟩ (by omega) (by (repeat (first | exact Env.Sub.nil | refine Env.Sub.cons rfl ?_))) (fun w h => Pick.sat (by iterate 60 (try (first | exact Pick.all | (apply Pick.take; (· (repeat (first | exact Out.here | apply Out.there)))) | apply Pick.drop))) h)
        · rw [hp, ← hwe]; simp
        · simp; omega
        · simp; omega
        · omega
    · rw [from_nil hkl2, List.append_nil] at hp
      have hk2 : (endsOf l).getD N l.length = l.length := by
        rw [endsOf, hp, List.getD_eq_getElem?_getD]
        by_cases e : N = pre.length
        · rw [e]; simp
        · rw [List.getElem?_eq_none (by simp; omega)]; rfl
      rw [hk2]
      (try (refine st ?_; intros))
      (refine q_fin0 ?_)
      exact Gives.mk (by simp)
theorem refEnds_es {l : List UInt8} {es : List (List Value)} (he : (endsOf l).map iV = es) (hl : l.length ≤ 5000000000000) (w0 : World) (m : Mem) (H : SHeap) :
    Does Try.prog 71 #[str l] w0 m H (MakesRow 3 1 es m H) := by subst he; exact refEnds_any l hl w0 m H
theorem refCut_any (l : List UInt8) (n : Int) (hl : l.length ≤ 1000000000) (hn : -9223372036854775808 ≤ n ∧ n ≤ 9223372036854775807) (w0 : World) (m : Mem) (H : SHeap) :
    Does Try.prog 51 #[str l, .int .i64 n] w0 m H (Gives (.tuple #[str (l.take (cutK l n)), str (l.drop (cutK l n))]) m H) := by
  refine Does.of_body (args := [str l, .int .i64 n]) Try.func51 rfl Try.ntmps51 rfl ?_
  have hel := ends_length l
  obtain ⟨es, hes⟩ : ∃ es, (endsOf l).map iV = es := ⟨_, rfl⟩
  have hesl : es.length = (endsOf l).length := by simp [← hes]
  have hne : 0 < (endsOf l).length := by simp [endsOf]
  obtain ⟨x, hx, hget, _, hmem, _⟩ := at_idx (xs := endsOf l) (f := iV) (i := (min (max n 0) ((es.length : Int) - 1)).toNat) (by omega)
  rw [hes] at hget
  have hxl := ends_le hmem
  have hk : cutK l n = x := by
    unfold cutK
    have hlast : (endsOf l)[(endsOf l).length - 1]? = some l.length := by simp [endsOf]
    split
    · rename_i h
      rw [show (min (max n 0) ((es.length : Int) - 1)).toNat = 0 by omega] at hx
      by_cases h1 : 0 < l.length
      · rw [endsOf, pieces, from_cons h1] at hx
        simp [readP_at] at hx; exact hx
      · rw [endsOf, pieces, from_nil h1] at hx
        simp at hx; omega
    · rename_i h
      rw [List.getD_eq_getElem?_getD]
      by_cases h1 : n.toNat < (endsOf l).length
      · rw [show (min (max n 0) ((es.length : Int) - 1)).toNat = n.toNat by omega] at hx
        rw [hx]; rfl
      · rw [show (min (max n 0) ((es.length : Int) - 1)).toNat = (endsOf l).length - 1 by omega, hlast] at hx
        rw [List.getElem?_eq_none (by omega)]
        simpa using hx
  rw [hk]
  (try (refine st ?_; intros))
  refine w_callF Try.func71 ?_ (hs := refEnds_es hes (by omega) _ _ _)
  rintro _ m _ ⟨a, cap, rfl, rfl, rfl⟩
  refine WL.rowSome (a := a) (by (repeat (first | exact List.Mem.head _ | apply List.Mem.tail))) (by omega) ?_
  rintro a0 rfl
  (try (refine st ?_; intros))
  (refine q_fin0 ?_)
  exact Gives.mk rfl
end Go.Proofs.Ytdmdabjaboigcaa

/-
  The walks of runes.Mend, Reverse, and of the reference's. No condition.
-/
namespace Go.Proofs.Ytdmdabjaboigcaa
open Go Go.Eng
set_option maxRecDepth 100000
set_option maxHeartbeats 4000000
set_option linter.all false
attribute [local irreducible] WL WC WQ QFun QLoop Does Q1 QRound QAssign Go.Addr.add
theorem bV_eq (w : List UInt8) : w.map bV = w.map (fun b => [Value.int .u8 (b.toNat : Int)]) := rfl
theorem mendOf_len {l w : List UInt8} (hw : w.length ≤ 64) : ∀ ps : List Pc, (∀ p ∈ ps, p.w ≤ 4) → (mendOf l w ps).length ≤ 64 * ps.length
  | [], _ => by simp [mendOf]
  | p :: ps, h => by
    have h1 := mendOf_len (l := l) hw ps (fun q hq => h q (List.mem_cons_of_mem _ hq))
    have h2 := h p List.mem_cons_self
    have h3 := txt_len l p
    have e : mendOf l w (p :: ps) = (if p.b then w else txt l p) ++ mendOf l w ps := by simp [mendOf]
    rw [e, List.length_append, List.length_cons]
    split <;> omega
theorem textsOf_len {l : List UInt8} : ∀ ps : List Pc, (∀ p ∈ ps, p.w ≤ 4) → (textsOf l ps).length ≤ 4 * ps.length
  | [], _ => by simp [textsOf]
  | p :: ps, h => by
    have h1 := textsOf_len (l := l) ps (fun q hq => h q (List.mem_cons_of_mem _ hq))
    have h2 := h p List.mem_cons_self
    have h3 := txt_len l p
    have e : textsOf l (p :: ps) = txt l p ++ textsOf l ps := by simp [textsOf]
    rw [e, List.length_append, List.length_cons]
    omega
theorem text_any (l : List UInt8) (p : Pc) (hp : p.at_ < l.length ∧ 1 ≤ p.w ∧ p.w ≤ 4 ∧ p.at_ + p.w ≤ l.length) (hl : l.length ≤ 1000000000) (w0 : World) (m : Mem) (H : SHeap) :
    Does Try.prog 78 #[str l, p.v] w0 m H (Gives (str (txt l p)) m H) := by
  refine Does.of_body (args := [str l, p.v]) Try.func78 rfl Try.ntmps78 rfl ?_
  (try (refine st ?_; intros))
  (refine q_fin0 ?_)
  exact Gives.mk rfl
theorem mend_any (l w : List UInt8) (hl : l.length ≤ 1048576) (hw : w.length ≤ 64) (w0 : World) (m : Mem) (H : SHeap) :
    Does Try.prog 49 #[str l, str w] w0 m H (Gives (str (mendOf l w (pieces l))) m H) := by
  refine Does.of_body (args := [str l, str w]) Try.func49 rfl Try.ntmps49 rfl ?_
  have hpl := pieces_length l
  (refine st ?_; intros; rename_i b2 b3 b5)
  refine w_callF Try.func38 ?_ (hs := pieces_any _ _ _ _)
  rintro _ m0 H0 ⟨b, rfl, rfl, rfl⟩
  (try (refine st ?_; intros))
  refine WC.newRow (T := 5) (sz := 1) ?_
  refine WC.persist (by (repeat (first | exact Out.here | apply Out.there))) ?_
  intro mp hle hb
  refine WC.rangeFunc (encs := fun p : Pc => [p.v]) (xs := pieces l) (Cap := TextAt b l) (lb := [.pointer (some ⟨b, 0, none⟩)]) (ps := [9]) (J := fun pre m' Hl => ∃ a cap, Hl = [.row a cap 5 1 ((mendOf l w pre).map bV), .blk b5 (.cells [.slice a (mendOf l w pre).length cap].toArray 90 (0, 0)), .blk b3 (.cells [str w].toArray 9 (0, 0)), .blk b2 (.cells [str l].toArray 9 (0, 0))]) (Jx := fun c pre m' Hl => False) rfl Try.func74 rfl rfl (pieces_seq l (by omega) b) hb (fun _ => rfl) rfl (.cons (.cons (.cons (.cons .nil)))) ?_ ?_ ?_ ?_
  · exact ⟨none, 0, rfl⟩
  · rintro lp pre x post hxs m1 Hl ⟨a, cap, rfl⟩ hm1 Hfr hfr
    have hpre : pre.length ≤ (pieces l).length := by rw [hxs]; simp
    have hmw := mem_w (l := l) (p := x) (by rw [hxs]; simp)
    have hln := mendOf_len (l := l) hw pre (fun p hp => (mem_w (l := l) (by rw [hxs]; exact List.mem_append_left _ hp)).2.2.1)
    have hml : ((mendOf l w pre).map bV).length = (mendOf l w pre).length := by simp
    have hsn := mendOf_snoc l w pre x
    have htx := txt_len l x
    have htd : txt l x = (l.take (x.at_ + x.w)).drop x.at_ := rfl
    have htl : ((l.take (x.at_ + x.w)).drop x.at_).length ≤ x.w := htx
    (try (refine st ?_; intros))
    refine WQ.assigned (.cons (.cons (.cons (.cons (.cons .nil))))) (Mem.le.refl _) ?_
    intro Hfr2
    cases hx : x.b with
    | true =>
      rw [hx, if_pos rfl] at hsn
      (refine st ?_; intros; rename_i a2 c2)
      refine WQ.roundOn (Hl := [.row a2 c2 5 1 _, .blk b5 _, .blk b3 _, .blk b2 _]) (fun w h => Pick.sat (by iterate 60 (try (first | exact Pick.all | (apply Pick.take; (· (repeat (first | exact Out.here | apply Out.there)))) | apply Pick.drop))) h) (Mem.le.refl _) ⟨a2, c2, ?_⟩
      rw [hsn, bV_append]; simp
    | false =>
      rw [hx] at hsn
      simp only [Bool.false_eq_true, if_false] at hsn
      (refine st ?_; intros; rename_i a2 c2)
      refine WQ.roundOn (Hl := [.row a2 c2 5 1 _, .blk b5 _, .blk b3 _, .blk b2 _]) (fun w h => Pick.sat (by iterate 60 (try (first | exact Pick.all | (apply Pick.take; (· (repeat (first | exact Out.here | apply Out.there)))) | apply Pick.drop))) h) (Mem.le.refl _) ⟨a2, c2, ?_⟩
      rw [hsn, bV_append, htd]; simp
  · rintro D m' Hl ⟨a, cap, rfl⟩ hm1
    (try (refine st ?_; intros))
    refine WL.rowStr (s := mendOf l w (pieces l)) rfl rfl (by (repeat (first | exact List.Mem.head _ | apply List.Mem.tail))) rfl rfl rfl rfl rfl ?_
    (try (refine st ?_; intros))
    refine WQ.mark (List.perm_middle (l₁ := [_, _, _, _])) ?_
    refine q_fin1 (H0 := H) (hle.trans hm1) (Gives.mk rfl) (hd := (fun w h => Pick.sat (by iterate 60 (try (first | exact Pick.all | (apply Pick.take; (· (repeat (first | exact Out.here | apply Out.there)))) | apply Pick.drop))) h))
  · rintro D c pre m' Hl _ h _
    exact h.elim
theorem sq_R25_1 {G : Prop} (h : G := by (repeat (first | (refine sp ?_; (repeat intro zzc)) | (refine iF 78 rfl ?_; refine w_callG Try.func78 ?_ (hs := text_any _ _ (by assumption) (by omega) _ _ _)))); exact WQ.q1 rfl) : G := h
theorem st_R25_1 {G G' : Prop} (next : G') (h : Bx G' → G := by intro zzn; (first | ((refine st ?_; (repeat intro zzc)); (try ((first | (refine iF 78 rfl ?_; refine w_callG Try.func78 ?_ (hs := text_any _ _ (by assumption) (by omega) _ _ _)) | ((refine iDraw ?_; (first | refine WC.drawAll rfl (by decide +kernel) ?_ | refine WC.draw 1 rfl (by decide +kernel) ?_ | refine WC.draw 2 rfl (by decide +kernel) ?_ | refine WC.draw 3 rfl (by decide +kernel) ?_ | refine WC.draw 4 rfl (by decide +kernel) ?_ | refine WC.draw 5 rfl (by decide +kernel) ?_ | refine WC.draw 6 rfl (by decide +kernel) ?_ | refine WC.draw 7 rfl (by decide +kernel) ?_ | refine WC.draw 8 rfl (by decide +kernel) ?_ | refine WC.draw 9 rfl (by decide +kernel) ?_ | refine WC.draw 10 rfl (by decide +kernel) ?_ | refine WC.draw 11 rfl (by decide +kernel) ?_ | refine WC.draw 12 rfl (by decide +kernel) ?_ | refine WC.draw 13 rfl (by decide +kernel) ?_ | refine WC.draw 14 rfl (by decide +kernel) ?_ | refine WC.draw 15 rfl (by decide +kernel) ?_ | refine WC.draw 16 rfl (by decide +kernel) ?_ | refine WC.draw 17 rfl (by decide +kernel) ?_ | refine WC.draw 18 rfl (by decide +kernel) ?_ | refine WC.draw 19 rfl (by decide +kernel) ?_ | refine WC.draw 20 rfl (by decide +kernel) ?_ | refine WC.draw 21 rfl (by decide +kernel) ?_ | refine WC.draw 22 rfl (by decide +kernel) ?_ | refine WC.draw 23 rfl (by decide +kernel) ?_ | refine WC.draw 24 rfl (by decide +kernel) ?_)); (repeat (refine WD.cons rfl (fun c h => by cases h) sq_R25_1 ?_)); refine WD.nil ?_)); (try (refine st ?_; (repeat intro zzc)))))) | ((first | (refine iF 78 rfl ?_; refine w_callG Try.func78 ?_ (hs := text_any _ _ (by assumption) (by omega) _ _ _)) | ((refine iDraw ?_; (first | refine WC.drawAll rfl (by decide +kernel) ?_ | refine WC.draw 1 rfl (by decide +kernel) ?_ | refine WC.draw 2 rfl (by decide +kernel) ?_ | refine WC.draw 3 rfl (by decide +kernel) ?_ | refine WC.draw 4 rfl (by decide +kernel) ?_ | refine WC.draw 5 rfl (by decide +kernel) ?_ | refine WC.draw 6 rfl (by decide +kernel) ?_ | refine WC.draw 7 rfl (by decide +kernel) ?_ | refine WC.draw 8 rfl (by decide +kernel) ?_ | refine WC.draw 9 rfl (by decide +kernel) ?_ | refine WC.draw 10 rfl (by decide +kernel) ?_ | refine WC.draw 11 rfl (by decide +kernel) ?_ | refine WC.draw 12 rfl (by decide +kernel) ?_ | refine WC.draw 13 rfl (by decide +kernel) ?_ | refine WC.draw 14 rfl (by decide +kernel) ?_ | refine WC.draw 15 rfl (by decide +kernel) ?_ | refine WC.draw 16 rfl (by decide +kernel) ?_ | refine WC.draw 17 rfl (by decide +kernel) ?_ | refine WC.draw 18 rfl (by decide +kernel) ?_ | refine WC.draw 19 rfl (by decide +kernel) ?_ | refine WC.draw 20 rfl (by decide +kernel) ?_ | refine WC.draw 21 rfl (by decide +kernel) ?_ | refine WC.draw 22 rfl (by decide +kernel) ?_ | refine WC.draw 23 rfl (by decide +kernel) ?_ | refine WC.draw 24 rfl (by decide +kernel) ?_)); (repeat (refine WD.cons rfl (fun c h => by cases h) sq_R25_1 ?_)); refine WD.nil ?_)); (try (refine st ?_; (repeat intro zzc))))); (repeat ((first | (refine iF 78 rfl ?_; refine w_callG Try.func78 ?_ (hs := text_any _ _ (by assumption) (by omega) _ _ _)) | ((refine iDraw ?_; (first | refine WC.drawAll rfl (by decide +kernel) ?_ | refine WC.draw 1 rfl (by decide +kernel) ?_ | refine WC.draw 2 rfl (by decide +kernel) ?_ | refine WC.draw 3 rfl (by decide +kernel) ?_ | refine WC.draw 4 rfl (by decide +kernel) ?_ | refine WC.draw 5 rfl (by decide +kernel) ?_ | refine WC.draw 6 rfl (by decide +kernel) ?_ | refine WC.draw 7 rfl (by decide +kernel) ?_ | refine WC.draw 8 rfl (by decide +kernel) ?_ | refine WC.draw 9 rfl (by decide +kernel) ?_ | refine WC.draw 10 rfl (by decide +kernel) ?_ | refine WC.draw 11 rfl (by decide +kernel) ?_ | refine WC.draw 12 rfl (by decide +kernel) ?_ | refine WC.draw 13 rfl (by decide +kernel) ?_ | refine WC.draw 14 rfl (by decide +kernel) ?_ | refine WC.draw 15 rfl (by decide +kernel) ?_ | refine WC.draw 16 rfl (by decide +kernel) ?_ | refine WC.draw 17 rfl (by decide +kernel) ?_ | refine WC.draw 18 rfl (by decide +kernel) ?_ | refine WC.draw 19 rfl (by decide +kernel) ?_ | refine WC.draw 20 rfl (by decide +kernel) ?_ | refine WC.draw 21 rfl (by decide +kernel) ?_ | refine WC.draw 22 rfl (by decide +kernel) ?_ | refine WC.draw 23 rfl (by decide +kernel) ?_ | refine WC.draw 24 rfl (by decide +kernel) ?_)); (repeat (refine WD.cons rfl (fun c h => by cases h) sq_R25_1 ?_)); refine WD.nil ?_)); (try (refine st ?_; (repeat intro zzc))))); (repeat revert zzc); exact zzn.out) : G := h ⟨next⟩
theorem refMend_any (l w : List UInt8) (hl : l.length ≤ 1048576) (hw : w.length ≤ 64) (w0 : World) (m : Mem) (H : SHeap) :
    Does Try.prog 52 #[str l, str w] w0 m H (Gives (str (mendOf l w (pieces l))) m H) := by
  refine Does.of_body (args := [str l, str w]) Try.func52 rfl Try.ntmps52 rfl ?_
  have hpl := pieces_length l
  have hpm : ((pieces l).map Pc.cs).length = (pieces l).length := by simp
  (try (refine st_R25_1 ?_; intros))
  refine w_callF Try.func19 ?_ (hs := refPieces_any _ (by omega) _ _ _)
  rintro _ m _ ⟨a, cap, rfl, rfl, rfl⟩
  (try (refine st_R25_1 ?_; intros))
  refine WC.newRow (T := 5) (sz := 1) ?_
  refine WC.loopH [(11, .int .i64 ((0) : Int)), (10, .int .i64 (((pieces l).map Pc.cs).length : Int)), (9, .slice a ((pieces l).map Pc.cs).length cap), (5, .slice (none) (0) (0)), (0, str l), (1, str w)] ?_ ?_ (fun j r ds m' H' => ∃ i b cb k S, j = (pieces l).length - i ∧ r = [(11, .int .i64 (i : Int)), (10, .int .i64 (((pieces l).map Pc.cs).length : Int)), (9, .slice a ((pieces l).map Pc.cs).length cap), (5, .slice b k cb), (0, str l), (1, str w)] ∧ ds = [] ∧ m = m' ∧ H' = .row b cb 5 1 (S.map bV) :: .row a cap 24 4 ((pieces l).map Pc.cs) :: H ∧ (i ≤ (pieces l).length) ∧ (k = (S.map bV).length) ∧ (S = mendOf l w ((pieces l).take i))) ((pieces l).length - (0)) ⟨0, none, 0, 0, [], rfl, rfl, rfl, rfl, rfl, by omega, rfl, rfl⟩ ?_
  · (repeat (first | exact Env.Sub.nil | refine Env.Sub.cons rfl ?_))
  · exact (fun w h => Pick.sat (by iterate 60 (try (first | exact Pick.all | (apply Pick.take; (· (repeat (first | exact Out.here | apply Out.there)))) | apply Pick.drop))) h)
  rintro j r ds m' H' ⟨i, b, cb, k, S, rfl, rfl, rfl, rfl, rfl, hi, rfl, hS⟩
  have hml : (S.map bV).length = S.length := by simp
  have hln := mendOf_len (l := l) hw ((pieces l).take i) (fun p hp => (mem_w (l := l) (List.mem_of_mem_take hp)).2.2.1)
  have htl : ((pieces l).take i).length ≤ i := by simp; omega
  rw [← hS] at hln
  by_cases hlt : i < (pieces l).length
  · obtain ⟨x, hx, hget, htk, hmem, hdr⟩ := at_idx (f := Pc.cs) hlt
    have hmw := mem_w hmem
    have htx := txt_len l x
    have hsn := mendOf_snoc l w ((pieces l).take i) x
    rw [← htk, ← hS] at hsn
    refine WC.rowSome (a := a) (by (repeat (first | exact List.Mem.head _ | apply List.Mem.tail))) (by omega) ?_
    rintro a0 rfl
    cases hb : x.b with
    | true =>
      rw [hb, if_pos rfl] at hsn
      (refine st_R25_1 ?_; intros; rename_i b2 cb2)
      rw [← bV_append]
      refine WQ.next ((pieces l).length - (i + 1)) ⟨i + 1, b2, cb2, _, S ++ w, rfl, rfl, rfl, rfl, rfl, ?_, ?_, ?_⟩ (by omega) (by (repeat (first | exact Env.Sub.nil | refine Env.Sub.cons rfl ?_))) (fun w h => Pick.sat (by iterate 60 (try (first | exact Pick.all | (apply Pick.take; (· (repeat (first | exact Out.here | apply Out.there)))) | apply Pick.drop))) h)
      · omega
      · simp
      · exact hsn.symm
    | false =>
      rw [hb] at hsn
      simp only [Bool.false_eq_true, if_false] at hsn
      (refine st_R25_1 ?_; intros; rename_i b2 cb2)
      rw [← bV_append]
      refine WQ.next ((pieces l).length - (i + 1)) ⟨i + 1, b2, cb2, _, S ++ txt l x, rfl, rfl, rfl, rfl, rfl, ?_, ?_, ?_⟩ (by omega) (by (repeat (first | exact Env.Sub.nil | refine Env.Sub.cons rfl ?_))) (fun w h => Pick.sat (by iterate 60 (try (first | exact Pick.all | (apply Pick.take; (· (repeat (first | exact Out.here | apply Out.there)))) | apply Pick.drop))) h)
      · omega
      · simp
      · exact hsn.symm
  · obtain rfl : i = (pieces l).length := by omega
    rw [List.take_length] at hS
    subst hS
    (try (refine st_R25_1 ?_; intros))
    refine WL.rowStr (s := mendOf l w (pieces l)) rfl hml (by (repeat (first | exact List.Mem.head _ | apply List.Mem.tail))) rfl rfl rfl rfl rfl ?_
    (try (refine st_R25_1 ?_; intros))
    (refine q_fin0 ?_)
    exact Gives.mk rfl
theorem reverse_any (l : List UInt8) (hl : l.length ≤ 1048576) (w0 : World) (m : Mem) (H : SHeap) :
    Does Try.prog 53 #[str l] w0 m H (Gives (str (textsOf l (pieces l).reverse)) m H) := by
  refine Does.of_body (args := [str l]) Try.func53 rfl Try.ntmps53 rfl ?_
  have hpl := pieces_length l
  (refine st_R25_1 ?_; intros; rename_i b1 b3)
  refine w_callF Try.func39 ?_ (hs := back_any _ _ _ _)
  rintro _ m0 H0 ⟨b, rfl, rfl, rfl⟩
  (try (refine st_R25_1 ?_; intros))
  refine WC.newRow (T := 5) (sz := 1) ?_
  refine WC.persist (by (repeat (first | exact Out.here | apply Out.there))) ?_
  intro mp hle hb
  refine WC.rangeFunc (encs := fun p : Pc => [p.v]) (xs := (pieces l).reverse) (Cap := TextAt b l) (lb := [.pointer (some ⟨b, 0, none⟩)]) (ps := [7]) (J := fun pre m' Hl => ∃ a cap, Hl = [.row a cap 5 1 ((textsOf l pre).map bV), .blk b3 (.cells [.slice a (textsOf l pre).length cap].toArray 90 (0, 0)), .blk b1 (.cells [str l].toArray 9 (0, 0))]) (Jx := fun c pre m' Hl => False) rfl Try.func75 rfl rfl (back_seq l (by omega) b) hb (fun _ => rfl) rfl (.cons (.cons (.cons .nil))) ?_ ?_ ?_ ?_
  · exact ⟨none, 0, rfl⟩
  · rintro lp pre x post hxs m1 Hl ⟨a, cap, rfl⟩ hm1 Hfr hfr
    have hin : ∀ p ∈ pre ++ [x], p ∈ pieces l := fun p hp => by
      have : p ∈ (pieces l).reverse := by rw [hxs]; rcases List.mem_append.1 hp with h | h; exact List.mem_append_left _ h; rw [List.mem_singleton.1 h]; simp
      exact List.mem_reverse.1 this
    have hpre : pre.length ≤ (pieces l).length := by have := congrArg List.length hxs; simp at this; omega
    have hmw := mem_w (l := l) (p := x) (hin x (by simp))
    have hln := textsOf_len (l := l) pre (fun p hp => (mem_w (l := l) (hin p (List.mem_append_left _ hp))).2.2.1)
    have hml : ((textsOf l pre).map bV).length = (textsOf l pre).length := by simp
    have hsn := textsOf_snoc l pre x
    have htx := txt_len l x
    have htd : txt l x = (l.take (x.at_ + x.w)).drop x.at_ := rfl
    have htl : ((l.take (x.at_ + x.w)).drop x.at_).length ≤ x.w := htx
    (try (refine st_R25_1 ?_; intros))
    refine WQ.assigned (.cons (.cons (.cons (.cons .nil)))) (Mem.le.refl _) ?_
    intro Hfr2
    (refine st_R25_1 ?_; intros; rename_i a2 c2)
    refine WQ.roundOn (Hl := [.row a2 c2 5 1 _, .blk b3 _, .blk b1 _]) (fun w h => Pick.sat (by iterate 60 (try (first | exact Pick.all | (apply Pick.take; (· (repeat (first | exact Out.here | apply Out.there)))) | apply Pick.drop))) h) (Mem.le.refl _) ⟨a2, c2, ?_⟩
    rw [hsn, bV_append, htd]; simp
  · rintro D m' Hl ⟨a, cap, rfl⟩ hm1
    (try (refine st_R25_1 ?_; intros))
    refine WL.rowStr (s := textsOf l (pieces l).reverse) rfl rfl (by (repeat (first | exact List.Mem.head _ | apply List.Mem.tail))) rfl rfl rfl rfl rfl ?_
    (try (refine st_R25_1 ?_; intros))
    refine WQ.mark (List.perm_middle (l₁ := [_, _, _])) ?_
    refine q_fin1 (H0 := H) (hle.trans hm1) (Gives.mk rfl) (hd := (fun w h => Pick.sat (by iterate 60 (try (first | exact Pick.all | (apply Pick.take; (· (repeat (first | exact Out.here | apply Out.there)))) | apply Pick.drop))) h))
  · rintro D c pre m' Hl _ h _
    exact h.elim
def sV (l : List UInt8) : List Value := [str l]
theorem refTexts_any (l : List UInt8) (hl : l.length ≤ 1048576) (w0 : World) (m : Mem) (H : SHeap) :
    Does Try.prog 79 #[str l] w0 m H (MakesRow 9 1 ((pieces l).map fun p => sV (txt l p)) m H) := by
  refine Does.of_body (args := [str l]) Try.func79 rfl Try.ntmps79 rfl ?_
  have hpl := pieces_length l
  have hpm : ((pieces l).map Pc.cs).length = (pieces l).length := by simp
  (try (refine st_R25_1 ?_; intros))
  refine w_callF Try.func19 ?_ (hs := refPieces_any _ (by omega) _ _ _)
  rintro _ m _ ⟨a, cap, rfl, rfl, rfl⟩
  (try (refine st_R25_1 ?_; intros))
  refine WC.newRow (T := 9) (sz := 1) ?_
  refine WC.loopH [(9, .int .i64 ((0) : Int)), (8, .int .i64 (((pieces l).map Pc.cs).length : Int)), (7, .slice a ((pieces l).map Pc.cs).length cap), (3, .slice (none) (0) (0)), (0, str l)] ?_ ?_ (fun j r ds m' H' => ∃ i b cb k es, j = (pieces l).length - i ∧ r = [(9, .int .i64 (i : Int)), (8, .int .i64 (((pieces l).map Pc.cs).length : Int)), (7, .slice a ((pieces l).map Pc.cs).length cap), (3, .slice b k cb), (0, str l)] ∧ ds = [] ∧ m = m' ∧ H' = .row b cb 9 1 es :: .row a cap 24 4 ((pieces l).map Pc.cs) :: H ∧ (i ≤ (pieces l).length) ∧ (k = es.length) ∧ (es = ((pieces l).take i).map fun p => sV (txt l p))) ((pieces l).length - (0)) ⟨0, none, 0, 0, [], rfl, rfl, rfl, rfl, rfl, by omega, rfl, rfl⟩ ?_
  · (repeat (first | exact Env.Sub.nil | refine Env.Sub.cons rfl ?_))
  · exact (fun w h => Pick.sat (by iterate 60 (try (first | exact Pick.all | (apply Pick.take; (· (repeat (first | exact Out.here | apply Out.there)))) | apply Pick.drop))) h)
  rintro j r ds m' H' ⟨i, b, cb, k, es, rfl, rfl, rfl, rfl, rfl, hi, rfl, hes⟩
  have hel : es.length ≤ i := by simp [hes]; omega
  by_cases hlt : i < (pieces l).length
  · obtain ⟨x, hx, hget, htk, hmem, hdr⟩ := at_idx (f := Pc.cs) hlt
    have hmw := mem_w hmem
    refine WC.rowSome (a := a) (by (repeat (first | exact List.Mem.head _ | apply List.Mem.tail))) (by omega) ?_
    rintro a0 rfl
    (refine st_R25_1 ?_; intros; rename_i b2 cb2)
    refine WQ.next ((pieces l).length - (i + 1)) ⟨i + 1, b2, cb2, _, _, rfl, rfl, rfl, rfl, rfl, ?_, ?_, ?_⟩ (by omega) (by (repeat (first | exact Env.Sub.nil | refine Env.Sub.cons rfl ?_))) (fun w h => Pick.sat (by iterate 60 (try (first | exact Pick.all | (apply Pick.take; (· (repeat (first | exact Out.here | apply Out.there)))) | apply Pick.drop))) h)
    · omega
    · simp
    · rw [htk, hes]; simp [sV]
  · obtain rfl : i = (pieces l).length := by omega
    rw [List.take_length] at hes
    (try (refine st_R25_1 ?_; intros))
    refine q_fin0 (H0 := .row b cb 9 1 _ :: H) ⟨b, cb, ?_, rfl, ?_⟩ (hd := (fun w h => Pick.sat (by iterate 60 (try (first | exact Pick.all | (apply Pick.take; (· (repeat (first | exact Out.here | apply Out.there)))) | apply Pick.drop))) h))
    · rw [← hes]
    · rw [← hes]
theorem texts_back (l : List UInt8) (ps : List Pc) : textsOf l ps = ps.flatMap (txt l) := rfl
theorem refReverse_any (l : List UInt8) (hl : l.length ≤ 1048576) (w0 : World) (m : Mem) (H : SHeap) :
    Does Try.prog 54 #[str l] w0 m H (Gives (str (textsOf l (pieces l).reverse)) m H) := by
  refine Does.of_body (args := [str l]) Try.func54 rfl Try.ntmps54 rfl ?_
  have hpl := pieces_length l
  have hpm : ((pieces l).map fun p => sV (txt l p)).length = (pieces l).length := by simp
  (try (refine st_R25_1 ?_; intros))
  refine w_callF Try.func79 ?_ (hs := refTexts_any _ (by omega) _ _ _)
  rintro _ m _ ⟨a, cap, rfl, rfl, rfl⟩
  (try (refine st_R25_1 ?_; intros))
  refine WC.newRow (T := 5) (sz := 1) ?_
  refine WC.loopH [(5, .int .i64 (((((pieces l).map fun p => sV (txt l p)).length : Int) - 1))), (4, .slice a ((pieces l).map fun p => sV (txt l p)).length cap), (3, .slice (none) (0) (0))] ?_ ?_ (fun j r ds m' H' => ∃ (q : Nat) (z : Int) (b : _) (cb : _) (k : _) (S : _), j = 2 * q ∧ r = [(5, .int .i64 z), (4, .slice a ((pieces l).map fun p => sV (txt l p)).length cap), (3, .slice b k cb)] ∧ ds = [] ∧ m = m' ∧ H' = .row b cb 5 1 (S.map bV) :: .row a cap 9 1 ((pieces l).map fun p => sV (txt l p)) :: H ∧ (q ≤ (pieces l).length) ∧ (z = (q : Int) - 1) ∧ (k = (S.map bV).length) ∧ (S = textsOf l ((pieces l).drop q).reverse)) (2 * ((pieces l).length)) ⟨(pieces l).length, ((((pieces l).map fun p => sV (txt l p)).length : Int) - 1), none, 0, 0, [], rfl, rfl, rfl, rfl, rfl, by omega, by rw [hpm], rfl, by rw [List.drop_length]; rfl⟩ ?_
  · (repeat (first | exact Env.Sub.nil | refine Env.Sub.cons rfl ?_))
  · exact (fun w h => Pick.sat (by iterate 60 (try (first | exact Pick.all | (apply Pick.take; (· (repeat (first | exact Out.here | apply Out.there)))) | apply Pick.drop))) h)
  rintro j r ds m' H' ⟨q, z, b, cb, k, S, rfl, rfl, rfl, rfl, rfl, hj, hz, rfl, hS⟩
  have hml : (S.map bV).length = S.length := by simp
  have hln := textsOf_len (l := l) ((pieces l).drop q).reverse (fun p hp => (mem_w (l := l) (List.mem_of_mem_drop (List.mem_reverse.1 hp))).2.2.1)
  rw [← hS] at hln
  simp only [List.length_reverse, List.length_drop] at hln
  by_cases h0 : 0 < q
  · obtain ⟨i, rfl⟩ : ∃ i, q = i + 1 := ⟨q - 1, by omega⟩
    obtain ⟨x, hx, hget, htk, hmem, hdr⟩ := at_idx (xs := pieces l) (f := fun p => sV (txt l p)) (i := i) (by omega)
    have hmw := mem_w hmem
    have htx := txt_len l x
    have hzi : z = (i : Int) := by omega
    subst hzi
    refine WC.rowSome (a := a) (by (repeat (first | exact List.Mem.head _ | apply List.Mem.tail))) (by omega) ?_
    rintro a0 rfl
    (refine st_R25_1 ?_; intros; rename_i b2 cb2)
    rw [← bV_append]
    refine WQ.next (2 * (i)) ⟨i, _, b2, cb2, _, S ++ txt l x, rfl, rfl, rfl, rfl, rfl, ?_, ?_, ?_, ?_⟩ (by omega) (by (repeat (first | exact Env.Sub.nil | refine Env.Sub.cons rfl ?_))) (fun w h => Pick.sat (by iterate 60 (try (first | exact Pick.all | (apply Pick.take; (· (repeat (first | exact Out.here | apply Out.there)))) | apply Pick.drop))) h)
    · omega
    · rfl
    · simp
    · rw [hdr, List.reverse_cons, textsOf_snoc, ← hS]
  · obtain rfl : q = 0 := by omega
    rw [List.drop_zero] at hS
    subst hS
    (try (refine st_R25_1 ?_; intros))
    refine WL.rowStr (s := textsOf l (pieces l).reverse) rfl hml (by (repeat (first | exact List.Mem.head _ | apply List.Mem.tail))) rfl rfl rfl rfl rfl ?_
    (try (refine st_R25_1 ?_; intros))
    (refine q_fin0 ?_)
    exact Gives.mk rfl
end Go.Proofs.Ytdmdabjaboigcaa

/-
  Plain facts on what Go's own conversions make of a text. No condition.
-/
set_option linter.all false
namespace Go.Eng
open Go
/-- a text's runes -/
def runesOf (l : List UInt8) : List Int := (pieces l).map fun p => (p.r : Int)
theorem runesOf_length (l : List UInt8) : (runesOf l).length = (pieces l).length := by simp [runesOf]
theorem read_eq {l : List UInt8} {p : Pc} (h : p ∈ pieces l) : (p.b = true → p.r = 65533 ∧ p.w = 1) ∧ (p.b = false → ¬ (p.r = 65533 ∧ p.w = 1) ∧ okr p.r ∧ txt l p = fmb p.r) := by
  obtain ⟨_, hlt, he⟩ := reach_of_mem h
  have hat := readP_at l p.at_
  unfold readP at he
  split at he
  · rw [he]; exact ⟨fun _ => ⟨rfl, rfl⟩, fun h => by cases h⟩
  · rename_i hd
    rcases dl_cases (l.drop p.at_) (by simp; omega) with ⟨h1, h2, h3⟩ | ⟨h2, _⟩
    · have hr : p.r = (dl (l.drop p.at_)).1 := by rw [he]
      have hw : p.w = (dl (l.drop p.at_)).2 := by rw [he]
      have hb : p.b = false := by rw [he]
      refine ⟨(fun h => by rw [hb] at h; cases h), fun _ => ⟨fun ⟨a, b⟩ => hd ?_, by rw [hr]; exact h1, ?_⟩⟩
      · rw [hr] at a; rw [hw] at b
        exact Prod.ext a b
      · have := (begins_iff _ _ (okr_le h1)).1 h3
        rw [hr, ← this, txt, hw, h2, List.drop_take]
        congr 1; omega
    · exact absurd h2 hd
theorem rn_piece {l : List UInt8} {p : Pc} (h : p ∈ pieces l) : okr p.r := by
  obtain ⟨_, hlt, he⟩ := reach_of_mem h
  rw [he]; exact readP_ok hlt
def lostB : List UInt8 := [239, 191, 189]
theorem fmb_lost : fmb 65533 = lostB := by decide
theorem forms_flat (l : List UInt8) : ∀ ps : List Pc, (∀ p ∈ ps, p ∈ pieces l) → formsOf (ps.map fun p => (p.r : Int)) = ps.flatMap fun p => if p.b then lostB else txt l p
  | [], _ => rfl
  | p :: ps, h => by
    have hp := h p List.mem_cons_self
    have hr := read_eq hp
    have ih := forms_flat l ps (fun q hq => h q (List.mem_cons_of_mem _ hq))
    have e1 : formsOf ((p :: ps).map fun p => (p.r : Int)) = fmb (rn (p.r : Int)) ++ formsOf (ps.map fun p => (p.r : Int)) := by simp [formsOf]
    rw [e1, ih, List.flatMap_cons, rn_nat (rn_piece hp)]
    cases hb : p.b with
    | true => rw [(hr.1 hb).1, fmb_lost]; simp
    | false => rw [(hr.2 hb).2.2]; simp
theorem forms_mend (l : List UInt8) : formsOf (runesOf l) = mendOf l lostB (pieces l) := forms_flat l (pieces l) (fun _ h => h)
theorem flat_len2 (l : List UInt8) : ∀ ps : List Pc, (∀ p ∈ ps, p ∈ pieces l) → (ps.flatMap fun p => if p.b then lostB else txt l p).length = (ps.flatMap (txt l)).length + 2 * (ps.filter fun p => p.b).length
  | [], _ => rfl
  | p :: ps, h => by
    have ih := flat_len2 l ps (fun q hq => h q (List.mem_cons_of_mem _ hq))
    have hp := h p List.mem_cons_self
    have hw := mem_w hp
    rw [List.flatMap_cons, List.flatMap_cons, List.length_append, List.length_append, ih, List.filter_cons]
    cases hb : p.b with
    | true =>
      have h1 := ((read_eq hp).1 hb).2
      have : (txt l p).length = 1 := by simp [txt]; omega
      simp [lostB, this]; omega
    | false => simp; omega
theorem forms_right (l : List UInt8) : formsOf (runesOf l) = l ↔ ((pieces l).filter fun p => p.b).length = 0 := by
  have h1 := forms_flat l (pieces l) (fun _ h => h)
  have h2 := flat_len2 l (pieces l) (fun _ h => h)
  have h3 : ((pieces l).flatMap (txt l)) = l := texts_all l
  rw [h3] at h2
  constructor
  · intro h
    have e := congrArg List.length h1
    rw [h2] at e
    have : (formsOf ((pieces l).map fun p => (p.r : Int))).length = l.length := congrArg List.length h
    omega
  · intro h
    have hno : ∀ p ∈ pieces l, p.b = false := by
      intro p hp
      cases hb : p.b with
      | false => rfl
      | true =>
        have : p ∈ (pieces l).filter fun p => p.b := List.mem_filter.2 ⟨hp, hb⟩
        rw [List.length_eq_zero_iff.1 h] at this; cases this
    have e : ((pieces l).flatMap fun p => if p.b then lostB else txt l p) = (pieces l).flatMap (txt l) := by
      have : ∀ ps : List Pc, (∀ p ∈ ps, p.b = false) → (ps.flatMap fun p => if p.b then lostB else txt l p) = ps.flatMap (txt l) := by
        intro ps
        induction ps with
        | nil => intro _; rfl
        | cons p ps ih =>
          intro hps
          rw [List.flatMap_cons, List.flatMap_cons, ih (fun q hq => hps q (List.mem_cons_of_mem _ hq)), hps p List.mem_cons_self]; rfl
      exact this _ hno
    rw [runesOf, h1, e, h3]
/-- the places that Go's own range tells, and the end -/
theorem ends_at {l : List UInt8} {pre post : List Pc} {x : Pc} (h : pieces l = pre ++ x :: post) : ((pieces l).map Pc.at_ ++ [l.length])[pre.length]? = some x.at_ ∧ ((pieces l).map Pc.at_ ++ [l.length])[pre.length + 1]? = some (x.at_ + x.w) := by
  have hs := pieces_split h
  have hx := mem_w (l := l) (p := x) (by rw [h]; simp)
  constructor
  · rw [h]; simp
  · have hf := hs.2.2.1
    rw [from_cons hs.1, ← hs.2.1] at hf
    have hp : post = from_ l (x.at_ + x.w) := by simpa using hf
    rw [h]
    by_cases hlt : x.at_ + x.w < l.length
    · rw [from_cons hlt] at hp
      rw [hp]
      simp [readP_at]
    · rw [from_nil hlt] at hp
      subst hp
      simp; omega
end Go.Eng

/-
  A walk's engine, eighteenth part: a region that draws its order, where some operations change the heap: what is calm is done first, what acts is done in every order that there is. No condition.
-/
set_option linter.all false
namespace Go.Eng
open Go Go.RowKit
/-- what an operation owes that may change the heap -/
def QE (w0 : World) (d : Nat) (ds : List Nat) (S : SHeap) (m : Mem) (K : Value → Mem → SHeap → SHeap → Prop) : Exit → Act → World → Prop
  | .normal, a, w => ∃ v m' B U, a.tmps[d]? = some v ∧ a.defers = marks ds ∧ m.le m' ∧ Sat w0 m' (S ++ B ++ U) w ∧ K v m' (S ++ B) U
  | _, _, _ => False
def readyV (V : Nat) (o : Oper) : Prop := ∀ e ∈ o.after, bind1 e = true → V.testBit e.on = true
section
variable {P : Program} {ro : Option Nat} {n : Nat} {w0 : World} {Q : Exit → Act → World → Prop} {r : Env} {ds : List Nat} {m : Mem} {H : SHeap}
theorem WQ.acted {d : Nat} {S B U : SHeap} {m0 : Mem} {K : Value → Mem → SHeap → SHeap → Prop} {v : Value} (hv : r.get d = some v) (hm : m0.le m) (hh : ∀ w, Sat w0 m H w → Sat w0 m (S ++ B ++ U) w) (hK : K v m (S ++ B) U) :
    WQ n w0 (QE w0 d ds S m0 K) .normal r ds m H := fun _ w ho hs => ⟨v, m, B, U, ho.at_ _ _ hv, rfl, hm, hh w hs, hK⟩
/-- what is left of a region: V tells which operations are done, or calm; S is what none of them changes -/
def WE (P : Program) (ro : Option Nat) (n : Nat) (w0 : World) (l : List Oper) (g : Nat) (ds : List Nat) (K : Env → Mem → SHeap → SHeap → Prop) : Nat → Nat → Env → Mem → SHeap → SHeap → Prop
  | 0, _, _, _, _, _ => False
  | k + 1, V, r, m, S, U =>
    ((∀ i, i < g → V.testBit i = true) ∧ K r m S U) ∨
    (∃ i o d v, i < g ∧ l[i]? = some o ∧ V.testBit i = false ∧ readyV V o ∧ o.dst = some d ∧ (∀ c, o.op ≠ .defer c) ∧
      (∀ m' F, m.le m' → WL P ro n w0 l.toArray (Q1 w0 d v ds m' (S ++ F)) [o] (Env.sel (o.looksAt l.toArray) r) ds m' (S ++ F)) ∧
      WE P ro n w0 l g ds K k (V ||| 1 <<< i) ((d, v) :: r) m S U) ∨
    ((∃ i, i < g ∧ V.testBit i = false) ∧ ∀ i o, i < g → l[i]? = some o → V.testBit i = false → readyV V o → ∃ d, o.dst = some d ∧ (∀ c, o.op ≠ .defer c) ∧
      WL P ro n w0 l.toArray (QE w0 d ds S m fun v m' S' U' => WE P ro n w0 l g ds K k (V ||| 1 <<< i) ((d, v) :: r) m' S' U') [o] (Env.sel (o.looksAt l.toArray) r) ds m (S ++ U))
theorem bit_set (V i j : Nat) : (V ||| 1 <<< i).testBit j = (V.testBit j || decide (i = j)) := by
  rw [Nat.testBit_or, Nat.one_shiftLeft, Nat.testBit_two_pow]
theorem bit_keep {V i j : Nat} (h : V.testBit j = true) : (V ||| 1 <<< i).testBit j = true := by rw [bit_set, h]; rfl
theorem bit_self (V i : Nat) : (V ||| 1 <<< i).testBit i = true := by rw [bit_set]; simp
theorem bit_old {V i j : Nat} (h : (V ||| 1 <<< i).testBit j = true) (hne : j ≠ i) : V.testBit j = true := by
  rw [bit_set] at h
  have : decide (i = j) = false := by simp; exact fun e => hne e.symm
  simpa [this] using h
theorem mask_in {l : List Oper} {g : Nat} {M : List Nat} (ok : DrawOk l g M) {p : Nat → Prop} {b : Nat} (hb : b ≤ l.length) (hc : ∀ j o, j < b → l[j]? = some o → p j → ∀ e ∈ o.after, bind1 e = true → p e.on) :
    ∀ j o, j < b → l[j]? = some o → (∀ e ∈ o.after, bind1 e = true → p e.on) → ∀ i, (M.getD j 0).testBit i = true → p i := by
  intro j
  induction j using Nat.strongRecOn with
  | _ j ih =>
    intro o hjb ho hw i hi
    rw [← ok.sub j o ho, Nat.testBit_and, Bool.and_eq_true] at hi
    rcases mask_bits M o.after.toList 0 i hi.2 with h | ⟨e, he, hbd, h⟩
    · simp at h
    · have he' : e ∈ o.after := by simpa using he
      have hon := hw e he' hbd
      rcases h with rfl | h
      · exact hon
      · have hlt := ok.down j o ho e he' hbd
        have hl : e.on < l.length := by omega
        exact ih e.on hlt l[e.on] (by omega) (List.getElem?_eq_getElem hl) (hc e.on _ (by omega) (List.getElem?_eq_getElem hl) hon) i h
/-- from what an operation owes, whatever comes behind it -/
theorem wpOp_of_post {ops : Array Oper} {i : Nat} {o : Oper} {d : Nat} {tmps : Array Value} {w : World} {Qx : Exit → Act → World → Prop} {K : Act → World → Prop} (hi : ops[i]? = some o) (hd : o.dst = some d) (hnd : ∀ c, o.op ≠ .defer c)
    (hdf : ∀ a w, Qx .normal a w → a.defers = marks ds) (hbad : ∀ e a w, Qx e a w → e = .normal)
    (h : wpListIn (FW ro) 0 P ops Qx [o] ⟨tmps, marks ds⟩ w) (hK : ∀ v0 w', Qx .normal ⟨tmps.setIfInBounds d v0, marks ds⟩ w' → K ⟨tmps.setIfInBounds d v0, marks ds⟩ w') : wpOpIn (FW ro) 0 P ops Q i K ⟨tmps, marks ds⟩ w := by
  have key : ∀ v0 w', Qx .normal ((Act.mk tmps (marks ds)).put o.dst v0) w' → K ((Act.mk tmps (marks ds)).put o.dst v0) w' := by
    intro v0 w' hq
    rw [hd] at hq ⊢
    exact hK v0 w' hq
  unfold wpOpIn
  rw [hi]
  unfold wpListIn at h
  simp only
  split
  · rename_i hw
    rw [if_pos hw] at h
    refine ⟨h.1, ?_⟩
    have h2 := h.2
    rw [semAt_exec (FW ro).round _ _ hnd] at h2 ⊢
    generalize hr : (execOp (Act.mk tmps (marks ds)).eval o).run P w = res at *
    cases res with
    | ok x w' =>
      cases x <;> simp only [Oper.uponIn] at h2 ⊢
      case value v0 => exact key _ _ h2
      case skip => exact key _ _ h2
      case defer df =>
        exfalso
        have h4 := congrArg List.length (hdf _ _ h2)
        rw [hd] at h4
        simp [Act.put] at h4
      case enter f args => exact ⟨h2.1, CallsIn.mono h2.2 fun e w'' he => by
        cases e with
        | returned v0 => exact key _ _ he
        | panicked chain => exact absurd (hbad _ _ _ he) (by simp)
        | outgrown => obtain ⟨a, b, hh⟩ := he; exact absurd (hbad _ _ _ hh) (by simp)⟩
      case row rw' args => exact ⟨h2.1, RowsIn.mono h2.2 fun v0 w'' he => key _ _ he⟩
      case round l f tm asg bd => exact ⟨h2.1, RoundIn.mono h2.2 fun e w'' he => by
        cases e with
        | returned v0 => exact key _ _ he
        | panicked chain => exact absurd (hbad _ _ _ he) (by simp)
        | outgrown => obtain ⟨a, b, hh⟩ := he; exact absurd (hbad _ _ _ hh) (by simp)⟩
    | halt x w' =>
      cases x <;> simp only [Oper.uponIn] at h2 ⊢
      all_goals first | exact h2.elim | exact absurd (hbad _ _ _ h2) (by simp) | exact absurd (hbad _ _ _ h2.2) (by simp) | skip
  · rename_i hw
    rw [if_neg hw] at h
    exact ⟨h.1, key _ _ h.2⟩
theorem count_set {l : List Oper} {listed : Array Bool} {i : Nat} (hs : listed.size = l.length) (hil : i < l.length) (hnl : listed.getD i false = false) :
    ((List.range l.length).filter fun k => !(listed.setIfInBounds i true).getD k false).length < ((List.range l.length).filter fun k => !listed.getD k false).length := by
  have hsub : List.Sublist ((List.range l.length).filter fun k => !(listed.setIfInBounds i true).getD k false) (((List.range l.length).filter fun k => !listed.getD k false).erase i) := by
    have hnd : ((List.range l.length).filter fun k => !listed.getD k false).Nodup := List.Pairwise.filter _ List.nodup_range
    rw [hnd.erase_eq_filter, List.filter_filter]
    refine sub_of_eq ?_
    apply List.filter_congr
    intro k hk
    simp only [Array.getD_eq_getD_getElem?]
    by_cases hik : i = k
    · subst hik; simp [show i < listed.size by omega]
    · rw [Array.getElem?_setIfInBounds_ne hik]; simp [Ne.symm hik]
  have hmem : i ∈ (List.range l.length).filter fun k => !listed.getD k false := by simp only [List.mem_filter, List.mem_range]; exact ⟨hil, by rw [hnl]; rfl⟩
  have h5 := hsub.length_le
  rw [List.length_erase_of_mem hmem] at h5
  have := List.length_pos_of_mem hmem
  omega
theorem listed_set {listed : Array Bool} {i j : Nat} (h : (listed.setIfInBounds i true).getD j false = true) (hne : j ≠ i) : listed.getD j false = true := by
  simp only [Array.getD_eq_getD_getElem?] at h ⊢
  rwa [Array.getElem?_setIfInBounds_ne (fun e => hne e.symm)] at h
theorem listed_keep {listed : Array Bool} {i j : Nat} (h : listed.getD j false = true) : (listed.setIfInBounds i true).getD j false = true := by
  simp only [Array.getD_eq_getD_getElem?] at h ⊢
  by_cases hij : i = j
  · subst hij
    by_cases hlt : i < listed.size
    · simp [hlt]
    · simp [Array.getElem?_eq_none (Nat.le_of_not_lt hlt)] at h
  · rwa [Array.getElem?_setIfInBounds_ne hij]
structure DInv (P : Program) (ro : Option Nat) (n : Nat) (w0 : World) (l : List Oper) (g : Nat) (M : List Nat) (ds : List Nat) (S : SHeap) (r0 : Env) (V : Nat) (r : Env) (m : Mem) (val : Nat → Value) (listed : Array Bool) (tmps : Array Value) : Prop where
  env : ∀ t u, r.get t = some u → (∃ j o, j < g ∧ V.testBit j = true ∧ l[j]? = some o ∧ o.dst = some t ∧ val j = u) ∨ (r0.get t = some u ∧ ∀ j o, j < g → V.testBit j = true → l[j]? = some o → o.dst ≠ some t)
  vclosed : ∀ j o, j < g → l[j]? = some o → V.testBit j = true → readyV V o
  rcd : ∀ i o, i < g → l[i]? = some o → V.testBit i = true → listed.getD i false = false → ∃ d ri, o.dst = some d ∧ (∀ c, o.op ≠ .defer c) ∧
    (∀ t ∈ o.looksAt l.toArray, ∀ u, ri.get t = some u → (∃ j oj, j < g ∧ l[j]? = some oj ∧ oj.dst = some t ∧ val j = u ∧ ∃ e ∈ o.after, bind1 e = true ∧ e.on = j) ∨ (r0.get t = some u ∧ ∀ j oj, j < g → l[j]? = some oj → oj.dst = some t → (M.getD j 0).testBit i = true)) ∧
    ∀ m' F, m.le m' → WL P ro n w0 l.toArray (Q1 w0 d (val i) ds m' (S ++ F)) [o] (Env.sel (o.looksAt l.toArray) ri) ds m' (S ++ F)
  size : listed.size = l.length
  closed : Closed l listed
  sub : ∀ j, j < g → listed.getD j false = true → V.testBit j = true
  tail : ∀ j, g ≤ j → j < l.length → listed.getD j false = false
  tsize : tmps.size = n
  done : ∀ j o d, j < g → listed.getD j false = true → l[j]? = some o → o.dst = some d → tmps[d]? = some (val j)
  old : ∀ t u, r0.get t = some u → (∀ j o, j < g → listed.getD j false = true → l[j]? = some o → o.dst ≠ some t) → tmps[t]? = some u
section sound
variable {l : List Oper} {g : Nat} {M : List Nat} {S U : SHeap} {r0 : Env} {V : Nat} {val : Nat → Value} {listed : Array Bool} {tmps : Array Value} {w : World}
theorem DInv.vmask (ok : DrawOk l g M) (h : DInv P ro n w0 l g M ds S r0 V r m val listed tmps) {j i : Nat} {o : Oper} (hj : j < g) (ho : l[j]? = some o) (hr : readyV V o) (hb : (M.getD j 0).testBit i = true) : V.testBit i = true :=
  mask_in ok ok.le (p := fun j => V.testBit j = true) (fun j o hj ho hp => h.vclosed j o hj ho hp) j o hj ho hr i hb
/-- what is drawn and already calm -/
theorem DInv.deferred (ok : DrawOk l g M) (h : DInv P ro n w0 l g M ds S r0 V r m val listed tmps) (hsat : Sat w0 m (S ++ U) w) {i : Nat} {o : Oper} (hi : i < g) (ho : l[i]? = some o) (hV : V.testBit i = true) (hnl : listed.getD i false = false)
    (hw : ∀ e ∈ o.after, bind1 e = true → listed.getD e.on false = true) {K : Act → World → Prop}
    (hK : ∀ tmps' w', DInv P ro n w0 l g M ds S r0 V r m val (listed.setIfInBounds i true) tmps' → Sat w0 m (S ++ U) w' → K ⟨tmps', marks ds⟩ w') : wpOpIn (FW ro) 0 P l.toArray Q i K ⟨tmps, marks ds⟩ w := by
  obtain ⟨d, ri, hd, hnd, hri, hwl⟩ := h.rcd i o hi ho hV hnl
  refine wpOp_of_q1 (m := m) (H := S ++ U) (w0 := w0) (v := val i) (by simpa using ho) hd hnd ?_ ?_
  · refine hwl m U (Mem.le.refl _) tmps w ⟨h.tsize, fun t u ht => ?_⟩ hsat
    obtain ⟨hlook, hget⟩ := Env.sel_get ht
    rcases hri t hlook u hget with ⟨j, oj, hj, hoj, hdj, hv, e, he, hb, hon⟩ | ⟨h0, hno⟩
    · have := hw e he hb
      rw [hon] at this
      rw [h.done j oj t hj this hoj hdj, hv]
    · refine h.old t u h0 (fun j oj hj hjl hoj hdj => ?_)
      have := mask_listed ok h.closed j oj hoj (h.closed j oj hoj hjl) i (hno j oj hj hoj hdj)
      rw [hnl] at this; cases this
  · intro w' hsat' hdlt
    have hil := (List.getElem?_eq_some_iff.1 ho).1
    refine hK _ w' ⟨h.env, h.vclosed, ?_, by simp [h.size], closed_set h.closed ho hw, ?_, ?_, by simp [h.tsize], ?_, ?_⟩ hsat'
    · intro i' o' hi' ho' hV' hnl'
      refine h.rcd i' o' hi' ho' hV' ?_
      cases hq : listed.getD i' false with
      | false => rfl
      | true => rw [listed_keep hq] at hnl'; cases hnl'
    · intro j hj hjl
      by_cases e : j = i
      · subst e; exact hV
      · exact h.sub j hj (listed_set hjl e)
    · intro j hj hjl
      cases hq : (listed.setIfInBounds i true).getD j false with
      | false => rfl
      | true => have := listed_set hq (by omega); rw [h.tail j hj hjl] at this; cases this
    · intro j oj dj hj hjl hoj hdj
      by_cases e : j = i
      · subst e
        rw [ho] at hoj; cases hoj
        rw [hd] at hdj; cases hdj
        exact Array.getElem?_setIfInBounds_self_of_lt hdlt
      · have hne : d ≠ dj := fun e2 => by
          subst e2
          exact e ((ok.dst j oj hj hoj).2 i o hi ho (hdj.trans hd.symm))
        rw [Array.getElem?_setIfInBounds_ne hne]
        exact h.done j oj dj hj (listed_set hjl e) hoj hdj
    · intro t u ht hno
      have hil' : (listed.setIfInBounds i true).getD i false = true := by simp [show i < listed.size by rw [h.size]; exact hil]
      have hne : d ≠ t := fun e => by subst e; exact hno i o hi hil' ho hd
      rw [Array.getElem?_setIfInBounds_ne hne]
      exact h.old t u ht (fun j oj hj hjl hoj => hno j oj hj (listed_keep hjl) hoj)
/-- one more is calm -/
theorem DInv.calm (ok : DrawOk l g M) (h : DInv P ro n w0 l g M ds S r0 V r m val listed tmps) {i d : Nat} {o : Oper} {v : Value} (hi : i < g) (ho : l[i]? = some o) (hV : V.testBit i = false) (hr : readyV V o) (hd : o.dst = some d) (hnd : ∀ c, o.op ≠ .defer c)
    (hwl : ∀ m' F, m.le m' → WL P ro n w0 l.toArray (Q1 w0 d v ds m' (S ++ F)) [o] (Env.sel (o.looksAt l.toArray) r) ds m' (S ++ F)) :
    DInv P ro n w0 l g M ds S r0 (V ||| 1 <<< i) ((d, v) :: r) m (fun j => if j = i then v else val j) listed tmps := by
  have hval : ∀ j, V.testBit j = true → (if j = i then v else val j) = val j := fun j hj => if_neg (fun e => by subst e; rw [hV] at hj; cases hj)
  refine ⟨?_, ?_, ?_, h.size, h.closed, fun j hj hjl => bit_keep (h.sub j hj hjl), h.tail, h.tsize, ?_, h.old⟩
  · intro t u ht
    simp only [Env.get] at ht
    cases hq : Nat.beq d t with
    | true =>
      have e := Nat.eq_of_beq_eq_true hq
      subst e
      simp [hq] at ht
      subst ht
      exact .inl ⟨i, o, hi, bit_self V i, ho, hd, if_pos rfl⟩
    | false =>
      simp [hq] at ht
      rcases h.env t u ht with ⟨j, oj, hj, hjV, hoj, hdj, hv⟩ | ⟨h0, hno⟩
      · exact .inl ⟨j, oj, hj, bit_keep hjV, hoj, hdj, by rw [hval j hjV]; exact hv⟩
      · refine .inr ⟨h0, fun j oj hj hjV hoj hdj => ?_⟩
        by_cases e : j = i
        · subst e
          rw [ho] at hoj; cases hoj
          rw [hd] at hdj; cases hdj
          exact Nat.ne_of_beq_eq_false hq rfl
        · exact hno j oj hj (bit_old hjV e) hoj hdj
  · intro j oj hj hoj hjV e he hb
    by_cases e2 : j = i
    · subst e2
      rw [ho] at hoj; cases hoj
      exact bit_keep (hr e he hb)
    · exact bit_keep (h.vclosed j oj hj hoj (bit_old hjV e2) e he hb)
  · intro i' o' hi' ho' hV' hnl'
    by_cases e : i' = i
    · subst e
      rw [ho] at ho'; cases ho'
      refine ⟨d, r, hd, hnd, ?_, ?_⟩
      · intro t hlook u hget
        rcases h.env t u hget with ⟨j, oj, hj, hjV, hoj, hdj, hv⟩ | ⟨h0, hno⟩
        · rcases ok.reads i' o hi ho t hlook j oj hj hoj hdj with ⟨_, e, he, hb, hon⟩ | ⟨_, hbit⟩
          · exact .inl ⟨j, oj, hj, hoj, hdj, by rw [hval j hjV]; exact hv, e, he, hb, hon⟩
          · have := h.vmask ok hj hoj (h.vclosed j oj hj hoj hjV) hbit
            rw [hV] at this; cases this
        · refine .inr ⟨h0, fun j oj hj hoj hdj => ?_⟩
          rcases ok.reads i' o hi ho t hlook j oj hj hoj hdj with ⟨_, e, he, hb, hon⟩ | ⟨_, hbit⟩
          · have := hr e he hb
            rw [hon] at this
            exact absurd hdj (hno j oj hj this hoj)
          · exact hbit
      · simp only [if_true]
        exact hwl
    · have hVo := bit_old hV' e
      obtain ⟨d', ri, k1, k2, k3, k4⟩ := h.rcd i' o' hi' ho' hVo hnl'
      refine ⟨d', ri, k1, k2, ?_, by rw [hval i' hVo]; exact k4⟩
      intro t hlook u hget
      rcases k3 t hlook u hget with ⟨j, oj, hj, hoj, hdj, hv, e', he', hb', hon'⟩ | h2
      · have hjV : V.testBit j = true := by have := h.vclosed i' o' hi' ho' hVo e' he' hb'; rwa [hon'] at this
        exact .inl ⟨j, oj, hj, hoj, hdj, by rw [hval j hjV]; exact hv, e', he', hb', hon'⟩
      · exact .inr h2
  · intro j oj dj hj hjl hoj hdj
    rw [hval j (h.sub j hj hjl)]
    exact h.done j oj dj hj hjl hoj hdj
/-- one acts -/
theorem DInv.act (ok : DrawOk l g M) (h : DInv P ro n w0 l g M ds S r0 V r m val listed tmps) {i d : Nat} {o : Oper} {v : Value} {m' : Mem} {B : SHeap} (hi : i < g) (ho : l[i]? = some o) (hV : V.testBit i = false)
    (hw : ∀ e ∈ o.after, bind1 e = true → listed.getD e.on false = true) (hd : o.dst = some d) (hm : m.le m') (hdlt : d < tmps.size) :
    DInv P ro n w0 l g M ds (S ++ B) r0 (V ||| 1 <<< i) ((d, v) :: r) m' (fun j => if j = i then v else val j) (listed.setIfInBounds i true) (tmps.setIfInBounds d v) := by
  have hval : ∀ j, V.testBit j = true → (if j = i then v else val j) = val j := fun j hj => if_neg (fun e => by subst e; rw [hV] at hj; cases hj)
  have hil := (List.getElem?_eq_some_iff.1 ho).1
  have hr : readyV V o := fun e he hb => h.sub e.on (by have := ok.down i o ho e he hb; omega) (hw e he hb)
  refine ⟨?_, ?_, ?_, by simp [h.size], closed_set h.closed ho hw, ?_, ?_, by simp [h.tsize], ?_, ?_⟩
  · intro t u ht
    simp only [Env.get] at ht
    cases hq : Nat.beq d t with
    | true =>
      have e := Nat.eq_of_beq_eq_true hq
      subst e
      simp [hq] at ht
      subst ht
      exact .inl ⟨i, o, hi, bit_self V i, ho, hd, if_pos rfl⟩
    | false =>
      simp [hq] at ht
      rcases h.env t u ht with ⟨j, oj, hj, hjV, hoj, hdj, hv⟩ | ⟨h0, hno⟩
      · exact .inl ⟨j, oj, hj, bit_keep hjV, hoj, hdj, by rw [hval j hjV]; exact hv⟩
      · refine .inr ⟨h0, fun j oj hj hjV hoj hdj => ?_⟩
        by_cases e : j = i
        · subst e
          rw [ho] at hoj; cases hoj
          rw [hd] at hdj; cases hdj
          exact Nat.ne_of_beq_eq_false hq rfl
        · exact hno j oj hj (bit_old hjV e) hoj hdj
  · intro j oj hj hoj hjV e he hb
    by_cases e2 : j = i
    · subst e2
      rw [ho] at hoj; cases hoj
      exact bit_keep (hr e he hb)
    · exact bit_keep (h.vclosed j oj hj hoj (bit_old hjV e2) e he hb)
  · intro i' o' hi' ho' hV' hnl'
    have e : i' ≠ i := fun e => by
      subst e
      have : (listed.setIfInBounds i' true).getD i' false = true := by simp [show i' < listed.size by rw [h.size]; exact hil]
      rw [this] at hnl'; cases hnl'
    have hVo := bit_old hV' e
    have hnl : listed.getD i' false = false := by
      cases hq : listed.getD i' false with
      | false => rfl
      | true => rw [listed_keep hq] at hnl'; cases hnl'
    obtain ⟨d', ri, k1, k2, k3, k4⟩ := h.rcd i' o' hi' ho' hVo hnl
    refine ⟨d', ri, k1, k2, ?_, by rw [hval i' hVo]; exact fun m'' F hle => by rw [List.append_assoc]; exact k4 m'' (B ++ F) (hm.trans hle)⟩
    intro t hlook u hget
    rcases k3 t hlook u hget with ⟨j, oj, hj, hoj, hdj, hv, e', he', hb', hon'⟩ | h2
    · have hjV : V.testBit j = true := by have := h.vclosed i' o' hi' ho' hVo e' he' hb'; rwa [hon'] at this
      exact .inl ⟨j, oj, hj, hoj, hdj, by rw [hval j hjV]; exact hv, e', he', hb', hon'⟩
    · exact .inr h2
  · intro j hj hjl
    by_cases e : j = i
    · subst e; exact bit_self V j
    · exact bit_keep (h.sub j hj (listed_set hjl e))
  · intro j hj hjl
    cases hq : (listed.setIfInBounds i true).getD j false with
    | false => rfl
    | true => have := listed_set hq (by omega); rw [h.tail j hj hjl] at this; cases this
  · intro j oj dj hj hjl hoj hdj
    by_cases e : j = i
    · subst e
      rw [ho] at hoj; cases hoj
      rw [hd] at hdj; cases hdj
      simp only [if_true]
      exact Array.getElem?_setIfInBounds_self_of_lt hdlt
    · have hjl' := listed_set hjl e
      have hne : d ≠ dj := fun e2 => by
        subst e2
        exact e ((ok.dst j oj hj hoj).2 i o hi ho (hdj.trans hd.symm))
      rw [Array.getElem?_setIfInBounds_ne hne, hval j (h.sub j hj hjl')]
      exact h.done j oj dj hj hjl' hoj hdj
  · intro t u ht hno
    have hil' : (listed.setIfInBounds i true).getD i false = true := by simp [show i < listed.size by rw [h.size]; exact hil]
    have hne : d ≠ t := fun e => by subst e; exact hno i o hi hil' ho hd
    rw [Array.getElem?_setIfInBounds_ne hne]
    exact h.old t u ht (fun j oj hj hjl hoj => hno j oj hj (listed_keep hjl) hoj)
theorem we_any (ok : DrawOk l g M) {K : Env → Mem → SHeap → SHeap → Prop} (hK : ∀ r m S U, K r m S U → WL P ro n w0 l.toArray Q (l.drop g) r ds m (S ++ U)) :
    ∀ (fuel k : Nat) (V : Nat) (r : Env) (m : Mem) (S U : SHeap) (val : Nat → Value) (listed : Array Bool) (tmps : Array Value) (w : World),
      WE P ro n w0 l g ds K k V r m S U → DInv P ro n w0 l g M ds S r0 V r m val listed tmps → Sat w0 m (S ++ U) w →
      ((List.range l.length).filter fun i => !listed.getD i false).length ≤ fuel → wpAnyIn (FW ro) 0 P .any l.toArray Q fuel listed ⟨tmps, marks ds⟩ w := by
  -- where all is done
  have final : ∀ (fuel : Nat) (V : Nat) (r : Env) (m : Mem) (S U : SHeap) (val : Nat → Value) (listed : Array Bool) (tmps : Array Value) (w : World), K r m S U → DInv P ro n w0 l g M ds S r0 V r m val listed tmps → Sat w0 m (S ++ U) w →
      (∀ i, i < g → listed.getD i false = true) → (∀ i, i < g → V.testBit i = true) → ((List.range l.length).filter fun i => !listed.getD i false).length ≤ fuel → wpAnyIn (FW ro) 0 P .any l.toArray Q fuel listed ⟨tmps, marks ds⟩ w := by
    intro fuel V r m S U val listed tmps w hk hI hs hall hV hf
    refine tail_any ok fuel g listed _ _ hI.size (Nat.le_refl _) ok.le (fun i hi => ⟨fun h => ?_, hall i⟩) ?_ ?_
    · rcases Nat.lt_or_ge i g with hlt | hge
      · exact hlt
      · rw [hI.tail i hge hi] at h; cases h
    · have : (List.range l.length).filter (fun i => !listed.getD i false) = (List.range l.length).filter (fun i => decide (g ≤ i)) := by
        apply List.filter_congr
        intro i hi
        have hi' := List.mem_range.1 hi
        rcases Nat.lt_or_ge i g with hlt | hge
        · rw [hall i hlt]; simp; omega
        · rw [hI.tail i hge hi']; simp [hge]
      rw [this] at hf
      have hcnt : l.length - g ≤ ((List.range l.length).filter (fun i => decide (g ≤ i))).length := by
        have hsub : List.Sublist (List.range' g (l.length - g)) ((List.range l.length).filter (fun i => decide (g ≤ i))) := by
          obtain ⟨k, hk⟩ : ∃ k, l.length = g + k := ⟨l.length - g, by have := ok.le; omega⟩
          have e : List.range l.length = List.range' 0 g ++ List.range' g (l.length - g) := by
            rw [List.range_eq_range', hk, Nat.add_sub_cancel_left]
            have := @List.range'_append 0 g k 1
            simpa using this.symm
          rw [e, List.filter_append]
          refine List.Sublist.trans ?_ (List.sublist_append_right _ _)
          rw [List.filter_eq_self.2 (fun i hi => by have := List.mem_range'_1.1 hi; simp; omega)]
          exact List.Sublist.refl _
        have := hsub.length_le
        simpa using this
      omega
    · refine hK r m S U hk tmps w ⟨hI.tsize, fun t u ht => ?_⟩ hs
      rcases hI.env t u ht with ⟨j, o, hj, _, hoj, hdj, hv⟩ | ⟨h0, hno⟩
      · rw [hI.done j o t hj (hall j hj) hoj hdj, hv]
      · exact hI.old t u h0 (fun j o hj hjl hoj => hno j o hj (hV j hj) hoj)
  intro fuel
  induction fuel with
  | zero =>
    intro k
    induction k with
    | zero => intro V r m S U val listed tmps w h; exact h.elim
    | succ k ihk =>
      intro V r m S U val listed tmps w h hI hs hf
      have hall : ∀ i, i < l.length → listed.getD i false = true := by
        intro i hi
        cases hq : listed.getD i false with
        | true => rfl
        | false =>
          exfalso
          have : i ∈ (List.range l.length).filter fun i => !listed.getD i false := by simp only [List.mem_filter, List.mem_range]; exact ⟨hi, by rw [hq]; rfl⟩
          have h0 := List.eq_nil_of_length_eq_zero (Nat.le_zero.1 hf)
          rw [h0] at this; cases this
      have hV : ∀ i, i < g → V.testBit i = true := fun i hi => hI.sub i hi (hall i (by have := ok.le; omega))
      rcases h with ⟨_, hk⟩ | ⟨i, o, d, v, hi, _, hVi, _⟩ | ⟨⟨i, hi, hVi⟩, _⟩
      · exact final 0 V r m S U val listed tmps w hk hI hs (fun i hi => hall i (by have := ok.le; omega)) hV hf
      · rw [hV i hi] at hVi; cases hVi
      · rw [hV i hi] at hVi; cases hVi
  | succ fuel ihf =>
    intro k
    induction k with
    | zero => intro V r m S U val listed tmps w h; exact h.elim
    | succ k ihk =>
      intro V r m S U val listed tmps w h hI hs hf
      by_cases hcalm : ∃ i o d v, i < g ∧ l[i]? = some o ∧ V.testBit i = false ∧ readyV V o ∧ o.dst = some d ∧ (∀ c, o.op ≠ .defer c) ∧
          (∀ m' F, m.le m' → WL P ro n w0 l.toArray (Q1 w0 d v ds m' (S ++ F)) [o] (Env.sel (o.looksAt l.toArray) r) ds m' (S ++ F)) ∧ WE P ro n w0 l g ds K k (V ||| 1 <<< i) ((d, v) :: r) m S U
      · obtain ⟨i, o, d, v, hi, ho, hV, hr, hd, hnd, hwl, hwe⟩ := hcalm
        exact ihk _ _ m S U _ listed tmps w hwe (hI.calm ok hi ho hV hr hd hnd hwl) hs hf
      -- an operation that is calm already, or one that acts
      have hcount : ∀ i, i < l.length → listed.getD i false = false → ((List.range l.length).filter fun k => !(listed.setIfInBounds i true).getD k false).length ≤ fuel := fun i hi hnl => by
        have := count_set hI.size hi hnl; omega
      by_cases hfin : ∀ i, i < g → listed.getD i false = true
      · have hV : ∀ i, i < g → V.testBit i = true := fun i hi => hI.sub i hi (hfin i hi)
        rcases h with ⟨_, hk⟩ | h | ⟨⟨i, hi, hVi⟩, _⟩
        · exact final _ V r m S U val listed tmps w hk hI hs hfin hV hf
        · exact absurd h hcalm
        · rw [hV i hi] at hVi; cases hVi
      refine ⟨fun hr => absurd (fun i hi => nothing_ready ok hI.size hr i (by have := ok.le; omega)) hfin, fun i hir => ?_⟩
      obtain ⟨h1, o, h2, h3⟩ := ready_of hir
      have hil := (List.getElem?_eq_some_iff.1 h2).1
      have hig : i < g := by
        rcases Nat.lt_or_ge i g with hlt | hge
        · exact hlt
        · exfalso
          refine hfin (fun k hk => ?_)
          exact mask_listed ok hI.closed i o h2 h3 k (ok.all i hge hil k (by omega))
      have hnl : listed.getD i false = false := by
        have hsz := hI.size
        simp only [Array.getD_eq_getD_getElem?] at h1 ⊢
        rw [Array.getElem?_eq_getElem (by omega)] at h1 ⊢
        exact h1
      cases hVi : V.testBit i with
      | true =>
        refine hI.deferred ok hs hig h2 hVi hnl h3 (fun tmps' w' hI' hs' => ?_)
        exact ihf (k + 1) V r m S U val _ tmps' w' h hI' hs' (hcount i hil hnl)
      | false =>
        rcases h with ⟨hV, _⟩ | h | ⟨_, h⟩
        · rw [hV i hig] at hVi; cases hVi
        · exact absurd h hcalm
        · have hrV : readyV V o := fun e he hb => hI.sub e.on (by have := ok.down i o h2 e he hb; omega) (h3 e he hb)
          obtain ⟨d, hd, hnd, hwl⟩ := h i o hig h2 hVi hrV
          refine wpOp_of_post (by simpa using h2) hd hnd ?_ ?_ (hwl tmps w ⟨hI.tsize, fun t u ht => ?_⟩ hs) ?_
          · rintro a w ⟨v, m', B, U', _, hdf, _⟩; exact hdf
          · intro e a w hq
            cases e <;> first | rfl | exact hq.elim
          · obtain ⟨hlook, hget⟩ := Env.sel_get ht
            rcases hI.env t u hget with ⟨j, oj, hj, hjV, hoj, hdj, hv⟩ | ⟨h0, hno⟩
            · rcases ok.reads i o hig h2 t hlook j oj hj hoj hdj with ⟨_, e, he, hb, hon⟩ | ⟨_, hbit⟩
              · have := h3 e he hb
                rw [hon] at this
                rw [hI.done j oj t hj this hoj hdj, hv]
              · have := hI.vmask ok hj hoj (hI.vclosed j oj hj hoj hjV) hbit
                rw [hVi] at this; cases this
            · exact hI.old t u h0 (fun j oj hj hjl hoj => hno j oj hj (hI.sub j hj hjl) hoj)
          · rintro v0 w' ⟨v, m', B, U', hv, _, hm, hs', hwe⟩
            have hdlt : d < tmps.size := by
              rcases Nat.lt_or_ge d tmps.size with hlt | hge
              · exact hlt
              · simp only at hv
                rw [Array.getElem?_eq_none (by simpa using hge)] at hv; cases hv
            have hv0 : v0 = v := by
              simp only at hv
              rw [Array.getElem?_setIfInBounds_self_of_lt hdlt] at hv
              exact Option.some.inj hv
            subst hv0
            exact ihf k _ _ m' (S ++ B) U' _ _ _ w' hwe (hI.act ok hig h2 hVi h3 hd hm hdlt) hs' (hcount i hil hnl)
end sound
def readyB (V : Nat) (o : Oper) : Bool := o.after.all fun e => !bind1 e || V.testBit e.on
theorem readyB_iff {V : Nat} {o : Oper} : readyB V o = true ↔ readyV V o := by
  unfold readyB readyV
  rw [Array.all_eq_true']
  constructor
  · intro h e he hb
    have := h e he
    simpa [hb] using this
  · intro h e he
    cases hb : bind1 e with
    | false => simp
    | true => simp [h e he hb]
/-- no operation but these may come next -/
def onlyB (l : List Oper) (g V : Nat) (js : List Nat) : Bool :=
  ((List.range g).any fun i => !V.testBit i) && ((List.range g).all fun i => V.testBit i || js.contains i || match l[i]? with | some o => !readyB V o | none => true)
theorem onlyB_ok {l : List Oper} {g V : Nat} {js : List Nat} (h : onlyB l g V js = true) : (∃ i, i < g ∧ V.testBit i = false) ∧ ∀ i o, i < g → l[i]? = some o → V.testBit i = false → readyV V o → i ∈ js := by
  unfold onlyB at h
  rw [Bool.and_eq_true] at h
  constructor
  · obtain ⟨i, hi, hV⟩ := List.any_eq_true.1 h.1
    exact ⟨i, List.mem_range.1 hi, by simpa using hV⟩
  · intro i o hi ho hV hr
    have := List.all_eq_true.1 h.2 i (List.mem_range.2 hi)
    have hrb := readyB_iff.2 hr
    rw [ho, hV] at this
    simpa [hrb] using this
section build
variable {l : List Oper} {g : Nat} {S U : SHeap} {K : Env → Mem → SHeap → SHeap → Prop} {k V : Nat}
theorem WE.done (h : ((List.range g).all fun i => V.testBit i) = true) (hK : K r m S U) : WE P ro n w0 l g ds K (k + 1) V r m S U :=
  .inl ⟨fun i hi => List.all_eq_true.1 h i (List.mem_range.2 hi), hK⟩
theorem WE.calm (i : Nat) {o : Oper} {d : Nat} {v : Value} (hV : V.testBit i = false) (hi : Nat.blt i g = true) (ho : l[i]? = some o) (hr : readyB V o = true) (hd : o.dst = some d) (hnd : ∀ c, o.op ≠ .defer c)
    (hwl : ∀ m' F, m.le m' → WL P ro n w0 l.toArray (Q1 w0 d v ds m' (S ++ F)) [o] (Env.sel (o.looksAt l.toArray) r) ds m' (S ++ F))
    (h : WE P ro n w0 l g ds K k (V ||| 1 <<< i) ((d, v) :: r) m S U) : WE P ro n w0 l g ds K (k + 1) V r m S U :=
  .inr (.inl ⟨i, o, d, v, by simpa [Nat.blt_eq] using hi, ho, hV, readyB_iff.1 hr, hd, hnd, hwl, h⟩)
/-- what one that acts owes -/
def Acts (P : Program) (ro : Option Nat) (n : Nat) (w0 : World) (l : List Oper) (g : Nat) (ds : List Nat) (K : Env → Mem → SHeap → SHeap → Prop) (k V : Nat) (r : Env) (m : Mem) (S U : SHeap) (i : Nat) : Prop :=
  ∃ o d, l[i]? = some o ∧ o.dst = some d ∧ (∀ c, o.op ≠ .defer c) ∧
    WL P ro n w0 l.toArray (QE w0 d ds S m fun v m' S' U' => WE P ro n w0 l g ds K k (V ||| 1 <<< i) ((d, v) :: r) m' S' U') [o] (Env.sel (o.looksAt l.toArray) r) ds m (S ++ U)
theorem WE.acts (js : List Nat) (h : onlyB l g V js = true) (hj : ∀ i ∈ js, Acts P ro n w0 l g ds K k V r m S U i) : WE P ro n w0 l g ds K (k + 1) V r m S U := by
  obtain ⟨h1, h2⟩ := onlyB_ok h
  refine .inr (.inr ⟨h1, fun i o hi ho hV hr => ?_⟩)
  obtain ⟨o', d, ho', hd, hnd, hwl⟩ := hj i (h2 i o hi ho hV hr)
  rw [ho] at ho'; cases ho'
  exact ⟨d, hd, hnd, hwl⟩
theorem WE.act1 (i : Nat) {o : Oper} {d : Nat} (h : onlyB l g V [i] = true) (ho : l[i]? = some o) (hd : o.dst = some d) (hnd : ∀ c, o.op ≠ .defer c)
    (hwl : WL P ro n w0 l.toArray (QE w0 d ds S m fun v m' S' U' => WE P ro n w0 l g ds K k (V ||| 1 <<< i) ((d, v) :: r) m' S' U') [o] (Env.sel (o.looksAt l.toArray) r) ds m (S ++ U)) : WE P ro n w0 l g ds K (k + 1) V r m S U :=
  .acts [i] h (fun j hj => by rw [List.mem_singleton] at hj; subst hj; exact ⟨o, d, ho, hd, hnd, hwl⟩)
theorem WE.act2 (i j : Nat) {o o' : Oper} {d d' : Nat} (h : onlyB l g V [i, j] = true) (ho : l[i]? = some o) (hd : o.dst = some d) (hnd : ∀ c, o.op ≠ .defer c) (ho' : l[j]? = some o') (hd' : o'.dst = some d') (hnd' : ∀ c, o'.op ≠ .defer c)
    (hwl : WL P ro n w0 l.toArray (QE w0 d ds S m fun v m' S' U' => WE P ro n w0 l g ds K k (V ||| 1 <<< i) ((d, v) :: r) m' S' U') [o] (Env.sel (o.looksAt l.toArray) r) ds m (S ++ U))
    (hwl' : WL P ro n w0 l.toArray (QE w0 d' ds S m fun v m' S' U' => WE P ro n w0 l g ds K k (V ||| 1 <<< j) ((d', v) :: r) m' S' U') [o'] (Env.sel (o'.looksAt l.toArray) r) ds m (S ++ U)) : WE P ro n w0 l g ds K (k + 1) V r m S U :=
  .acts [i, j] h (fun q hq => by
    rcases List.mem_cons.1 hq with rfl | hq
    · exact ⟨o, d, ho, hd, hnd, hwl⟩
    · rw [List.mem_singleton] at hq; subst hq; exact ⟨o', d', ho', hd', hnd', hwl'⟩)
end build
/-- a region that draws its order, where some operations act -/
theorem WC.drawE {id : Nat} {l : List Oper} (g : Nat) (S U : SHeap) (hm : P.follows .mixedOrders = true) (hc : drawB l g = true) (hS : ∀ w, Sat w0 m H w → Sat w0 m (S ++ U) w)
    (h : WE P ro n w0 l g ds (fun r' m' S' U' => WL P ro n w0 l.toArray Q (l.drop g) r' ds m' (S' ++ U')) 200 0 r m S U) : WC P ro n w0 (.region id l.toArray true) Q r ds m H := by
  intro tmps w ho hs
  have ok := drawB_ok hc
  refine wpIn_region_draw fun t => ?_
  simp only [Region.schedule, hm, Bool.true_or, if_true]
  refine wpAnyIn_sound _ _ _ _ _ ?_
  have hz : ∀ k, (Array.replicate l.length false).getD k false = false := by
    intro k
    simp only [Array.getD_eq_getD_getElem?]
    by_cases hk : k < l.length
    · simp [hk]
    · rw [Array.getElem?_eq_none (by simpa using hk)]; rfl
  have hsz : l.toArray.size = l.length := by simp
  rw [hsz]
  refine we_any (r0 := r) ok (fun _ _ _ _ h => h) l.length 200 0 r m S U (fun _ => undef) _ tmps _ h ?_ (hS _ hs.drew) ?_
  · refine ⟨fun t u ht => .inr ⟨ht, fun j o _ hj => ?_⟩, fun j o _ _ hj => ?_, fun i o _ _ hj => ?_, by simp, fun j o _ hj => ?_, fun j _ hj => ?_, fun j _ _ => hz j, ho.size, fun j o d _ hj => ?_, fun t u ht _ => ho.at_ t u ht⟩
    · simp at hj
    · simp at hj
    · simp at hj
    · rw [hz] at hj; cases hj
    · rw [hz] at hj; cases hj
    · rw [hz] at hj; cases hj
  · exact Nat.le_trans (List.length_filter_le _ _) (by simp)
end
end Go.Eng

