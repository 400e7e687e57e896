/-
  Parts of a walk, joined: R1 R2 RT2 RT3 RT7 RT4 RT8 RT9 RT10 RT11 RT13 RT14 RT15 OR1 OT2 O8. No condition.
-/
import Derived.Test.YtljfncpecpkhhaaP3
import Derived.Test.YtljfncpecpkhhaaP2
import Derived.Test.YtljfncpecpkhhaaProg
import Derived.Test.YtljfncpecpkhhaaP4
import Derived.Test.YtljfncpecpkhhaaP1
import Derived.Test.YtljfncpecpkhhaaP5
set_option linter.all false
/-
  The walks of package runes and of its reference, first part: a rune's width, the piece that is read at a place. No condition.
-/
namespace Go.Proofs.Ytljfncpecpkhhaa
open Go Go.Eng
set_option maxRecDepth 100000
set_option maxHeartbeats 4000000
set_option linter.all false
attribute [local irreducible] WL WC WQ QFun QLoop Does Q1 QRound QAssign Go.Addr.add
/-- runes.Width, of whatever number -/
def widthS (r : Int) : Int := if r ≠ 65533 ∧ fmb (rn r) = [239, 191, 189] then 0 else (wd (rn r) : Int)
theorem width_any (r : Int) (w0 : World) (m : Mem) (H : SHeap) : Does Try.prog 86 #[.int .i32 r] w0 m H (Gives (.int .i64 (widthS r)) m H) := by
  refine Does.of_body (args := [.int .i32 r]) Try.func86 rfl Try.ntmps86 rfl ?_
  (try (refine st ?_; intros))
  (first | refine c_ways (fun h1 => ?_) (fun h1 => ?_) | refine c_nways (fun h1 => ?_) (fun h1 => ?_) | refine w_gways (fun h1 => ?_) (fun h1 => ?_) | refine w_gnways (fun h1 => ?_) (fun h1 => ?_))
  · (try (refine st ?_; intros))
    (first | refine c_ways (fun h2 => ?_) (fun h2 => ?_) | refine c_nways (fun h2 => ?_) (fun h2 => ?_) | refine w_gways (fun h2 => ?_) (fun h2 => ?_) | refine w_gnways (fun h2 => ?_) (fun h2 => ?_))
    · (try (refine st ?_; intros))
      rw [encode_eq] at h2
      exact WQ.fin _ (res_tmp rfl rfl) (.mk (by rw [widthS, if_pos ⟨h1, h2⟩]))
    · (try (refine st ?_; intros))
      rw [encode_eq] at h2 ⊢
      exact WQ.fin _ (res_tmp rfl rfl) (.mk (by rw [widthS, if_neg (fun h => h2 h.2), fmb_length]))
  · (try (refine st ?_; intros))
    rw [encode_eq]
    exact WQ.fin _ (res_tmp rfl rfl) (.mk (by rw [widthS, if_neg (fun h => h.1 h1), fmb_length]))

theorem widthS_ok {c : Nat} (h : okr c) : widthS (c : Int) = (wd c : Int) := by
  unfold widthS
  rw [rn_nat h, if_neg]
  rintro ⟨h1, h2⟩
  apply h1
  have h3 : wd c = 3 := by rw [← fmb_length c, h2]; rfl
  have hc : ¬ c < 128 ∧ ¬ c < 2048 ∧ c < 65536 := by
    unfold wd at h3
    split at h3
    · cases h3
    · split at h3
      · cases h3
      · split at h3
        · omega
        · cases h3
  have h4 := nb_fmb c 0 (by omega) (by omega)
  have h5 := nb_fmb c 1 (by omega) (by omega)
  have h6 := nb_fmb c 2 (by omega) (by omega)
  rw [h2] at h4 h5 h6
  unfold fm at h4 h5 h6
  rw [if_neg hc.1, if_neg hc.2.1, if_pos hc.2.2] at h4 h5 h6
  simp [nb, gb] at h4 h5 h6
  omega
theorem fmb_lost : fmb 65533 = [239, 191, 189] := by decide
/-- what the text bears there is the form of U+FFFD just if it is decoded as one of three bytes -/
theorem lost_iff (l : List UInt8) (hl : 0 < l.length) (h : (dl l).1 = 65533) : (¬ l.length < 3 ∧ l.take 3 = [239, 191, 189]) ↔ ¬ dl l = (65533, 1) := by
  have hw : wd 65533 = 3 := by decide
  constructor
  · rintro ⟨h1, h2⟩ h3
    have := dl_of_begins (l := l) (c := 65533) (by right; decide) ((begins_iff l 65533 (by decide)).2 (by rw [hw, h2, fmb_lost]))
    rw [h3, hw] at this
    cases this
  · intro h3
    rcases dl_cases l hl with ⟨_, _, hb⟩ | ⟨he, _⟩
    · rw [h] at hb
      have := (begins_iff l 65533 (by decide)).1 hb
      rw [hw, fmb_lost] at this
      have hb1 := hb.1
      rw [hw] at hb1
      exact ⟨by omega, this⟩
    · exact absurd he h3
theorem readP_some {l : List UInt8} {k : Nat} (hk : k < l.length) (h : ¬ dl (l.drop k) = (65533, 1)) : okr (dl (l.drop k)).1 ∧ widthS ((dl (l.drop k)).1 : Int) = ((dl (l.drop k)).2 : Int) := by
  rcases dl_cases (l.drop k) (by simp; omega) with ⟨h1, h2, _⟩ | ⟨he, _⟩
  · exact ⟨h1, by rw [widthS_ok h1, h2]⟩
  · exact absurd he h

theorem take_drop_swap (l : List UInt8) (k j : Nat) : (l.take (k + j)).drop k = (l.drop k).take j := by
  rw [List.drop_take]; congr 1; omega
theorem read_any (l : List UInt8) (k : Nat) (hl : l.length ≤ 9223372036854775804) (hk : k < l.length) (w0 : World) (m : Mem) (H : SHeap) :
    Does Try.prog 73 #[str l, .int .i64 (k : Int)] w0 m H (Gives (readP l k).v m H) := by
  have hlen : (l.drop k).length = l.length - k := List.length_drop
  have hli := lost_iff (l.drop k) (by omega)
  have hso := fun h => (readP_some hk h).2
  rw [hlen] at hli
  refine Does.of_body (args := [str l, .int .i64 (k : Int)]) Try.func73 rfl Try.ntmps73 rfl ?_
  (try (refine st ?_; intros))
  apply WC.loop1
  (try (refine st ?_; intros))
  refine WL.rename 15 (u := .int .i32 ((dl (l.drop k)).1 : Int)) rfl rfl ?_
  refine WL.rename 6 (u := .int .i32 ((dl (l.drop k)).1 : Int)) rfl rfl ?_
  refine w_callF Try.func86 ?_ (hs := width_any _ _ _ _)
  rintro _ _ _ ⟨rfl, rfl, rfl⟩
  by_cases hA : dl (l.drop k) = (65533, 1)
  · have h1 : (dl (l.drop k)).1 = 65533 := by rw [hA]
    (try (refine st ?_; intros))
    (first | refine c_ways (fun h2 => ?_) (fun h2 => ?_) | refine c_nways (fun h2 => ?_) (fun h2 => ?_) | refine w_gways (fun h2 => ?_) (fun h2 => ?_) | refine w_gnways (fun h2 => ?_) (fun h2 => ?_))
    · (try (refine st ?_; intros))
      (refine q_fin0 ?_)
      refine Gives.mk ?_
      unfold readP; rw [if_pos hA]; rfl
    · (try (refine st ?_; intros))
      (first | refine c_ways (fun h3 => ?_) (fun h3 => ?_) | refine c_nways (fun h3 => ?_) (fun h3 => ?_) | refine w_gways (fun h3 => ?_) (fun h3 => ?_) | refine w_gnways (fun h3 => ?_) (fun h3 => ?_))
      · (try (refine st ?_; intros))
        (refine q_fin0 ?_)
        refine Gives.mk ?_
        unfold readP; rw [if_pos hA]; rfl
      · exfalso
        rw [take_drop_swap] at h3
        exact (hli h1).1 ⟨by omega, h3⟩ hA
  · have hw := hso hA
    (try (refine st ?_; intros))
    (first | refine c_ways (fun h2 => ?_) (fun h2 => ?_) | refine c_nways (fun h2 => ?_) (fun h2 => ?_) | refine w_gways (fun h2 => ?_) (fun h2 => ?_) | refine w_gnways (fun h2 => ?_) (fun h2 => ?_))
    · have h1 : (dl (l.drop k)).1 = 65533 := by omega
      obtain ⟨h4, h5⟩ := (hli h1).2 hA
      (try (refine st ?_; intros))
      (first | refine c_ways (fun h3 => ?_) (fun h3 => ?_) | refine c_nways (fun h3 => ?_) (fun h3 => ?_) | refine w_gways (fun h3 => ?_) (fun h3 => ?_) | refine w_gnways (fun h3 => ?_) (fun h3 => ?_))
      · exfalso
        rw [take_drop_swap] at h3
        exact h3 h5
      · (try (refine st ?_; intros))
        (refine q_fin0 ?_)
        refine Gives.mk ?_
        unfold readP; rw [if_neg hA, hw]; rfl
    · (try (refine st ?_; intros))
      (refine q_fin0 ?_)
      refine Gives.mk ?_
      unfold readP; rw [if_neg hA, hw]; rfl
end Go.Proofs.Ytljfncpecpkhhaa

/-
  The walks of package runes and of its reference, second part: the pieces of a text, by range. No condition.
-/
namespace Go.Proofs.Ytljfncpecpkhhaa
open Go Go.Eng
set_option maxRecDepth 100000
set_option maxHeartbeats 4000000
set_option linter.all false
attribute [local irreducible] WL WC WQ QFun QLoop Does Q1 QRound QAssign Go.Addr.add
/-- what a text's iterator leans on: its text in a cell that stays -/
def TextAt (b : Nat) (l : List UInt8) (m : Mem) : Prop := m b = some (.cells [str l].toArray 9 (0, 0))
/-- an iterator's value: made anew, over a text of its own -/
def IterOf (f : Nat) (l : List UInt8) (m : Mem) (H : SHeap) : Value → Mem → SHeap → Prop := fun v m' H' =>
  ∃ b, v = .func (.func f) #[] #[.pointer (some ⟨b, 0, none⟩)] ∧ m' = m ∧ H' = .blk b (.cells [str l].toArray 9 (0, 0)) :: H
theorem pieces_any (l : List UInt8) (w0 : World) (m : Mem) (H : SHeap) : Does Try.prog 47 #[str l] w0 m H (IterOf 75 l m H) := by
  refine Does.of_body (args := [str l]) Try.func47 rfl Try.ntmps47 rfl ?_
  (try (refine st ?_; intros))
  apply WQ.fin
  · (first | (apply res_tmp; (· exact rfl); (· exact rfl)) | (apply res_cell; (· exact rfl); (· exact rfl); (· (first | (apply Loads.one; (· exact rfl); (· first | (apply Cell.blk; (· (repeat (first | exact List.Mem.head _ | apply List.Mem.tail))); (· exact rfl)) | (apply Cell.mem; (· assumption); (· exact rfl)))) | (apply Loads.whole; (· exact rfl); (· exact rfl); (· (repeat (first | exact List.Mem.head _ | apply List.Mem.tail))); (· exact rfl)) | (apply Loads.blk; (· exact rfl); (· exact rfl); (· (repeat (first | exact List.Mem.head _ | apply List.Mem.tail))); (· (repeat (first | exact Seg.nil | (apply Seg.cons; (· exact rfl)))))) | (apply Loads.row; (· (repeat (first | exact List.Mem.head _ | apply List.Mem.tail))); (first | (rotate_left; (· exact rfl); rotate_right; (· assumption)) | ((· assumption); (· exact rfl))); (· exact rfl); (· exact rfl); (· exact rfl)) | (apply Loads.row1; (· (repeat (first | exact List.Mem.head _ | apply List.Mem.tail))); (first | (rotate_left; (· exact rfl); rotate_right; (· assumption)) | ((· assumption); (· exact rfl))); (· exact rfl)) | (apply Loads.rowF; (· (repeat (first | exact List.Mem.head _ | apply List.Mem.tail))); (first | (rotate_left; (· exact rfl); rotate_right; (· assumption)) | ((· assumption); (· exact rfl))); (· exact rfl); (· exact rfl)) | (apply Loads.prow; (· assumption); (first | (rotate_left; (· exact rfl); rotate_right; (· assumption)) | ((· assumption); (· exact rfl))); (· exact rfl); (· exact rfl); (· exact rfl)) | (apply Loads.prow1; (· assumption); (first | (rotate_left; (· exact rfl); rotate_right; (· assumption)) | ((· assumption); (· exact rfl))); (· exact rfl)) | (apply Loads.prowF; (· assumption); (first | (rotate_left; (· exact rfl); rotate_right; (· assumption)) | ((· assumption); (· exact rfl))); (· exact rfl); (· exact rfl)) | (apply Loads.rrow; (· assumption); (first | (rotate_left; (· exact rfl); rotate_right; (· assumption)) | ((· assumption); (· exact rfl))); (· exact rfl); (· exact rfl); (· exact rfl)) | (apply Loads.rrow1; (· assumption); (first | (rotate_left; (· exact rfl); rotate_right; (· assumption)) | ((· assumption); (· exact rfl))); (· exact rfl)) | (apply Loads.rrowF; (· assumption); (first | (rotate_left; (· exact rfl); rotate_right; (· assumption)) | ((· assumption); (· exact rfl))); (· exact rfl); (· exact rfl)) | (apply Loads.rowS; (· (repeat (first | exact List.Mem.head _ | apply List.Mem.tail))); (first | (rotate_left; (· exact rfl); rotate_right; (· assumption)) | ((· assumption); (· exact rfl))); (· exact rfl); (· exact rfl); (· (repeat (first | exact Seg.nil | (apply Seg.cons; (· exact rfl))))))))) | (apply res_none; exact rfl) | (apply res_many; (· exact rfl); (· repeat (first | exact ResAll.nil | (apply ResAll.tmp; (· exact rfl)) | (apply ResAll.cell; (· exact rfl); (· (first | (apply Loads.one; (· exact rfl); (· first | (apply Cell.blk; (· (repeat (first | exact List.Mem.head _ | apply List.Mem.tail))); (· exact rfl)) | (apply Cell.mem; (· assumption); (· exact rfl)))) | (apply Loads.whole; (· exact rfl); (· exact rfl); (· (repeat (first | exact List.Mem.head _ | apply List.Mem.tail))); (· exact rfl)) | (apply Loads.blk; (· exact rfl); (· exact rfl); (· (repeat (first | exact List.Mem.head _ | apply List.Mem.tail))); (· (repeat (first | exact Seg.nil | (apply Seg.cons; (· exact rfl)))))) | (apply Loads.row; (· (repeat (first | exact List.Mem.head _ | apply List.Mem.tail))); (first | (rotate_left; (· exact rfl); rotate_right; (· assumption)) | ((· assumption); (· exact rfl))); (· exact rfl); (· exact rfl); (· exact rfl)) | (apply Loads.row1; (· (repeat (first | exact List.Mem.head _ | apply List.Mem.tail))); (first | (rotate_left; (· exact rfl); rotate_right; (· assumption)) | ((· assumption); (· exact rfl))); (· exact rfl)) | (apply Loads.rowF; (· (repeat (first | exact List.Mem.head _ | apply List.Mem.tail))); (first | (rotate_left; (· exact rfl); rotate_right; (· assumption)) | ((· assumption); (· exact rfl))); (· exact rfl); (· exact rfl)) | (apply Loads.prow; (· assumption); (first | (rotate_left; (· exact rfl); rotate_right; (· assumption)) | ((· assumption); (· exact rfl))); (· exact rfl); (· exact rfl); (· exact rfl)) | (apply Loads.prow1; (· assumption); (first | (rotate_left; (· exact rfl); rotate_right; (· assumption)) | ((· assumption); (· exact rfl))); (· exact rfl)) | (apply Loads.prowF; (· assumption); (first | (rotate_left; (· exact rfl); rotate_right; (· assumption)) | ((· assumption); (· exact rfl))); (· exact rfl); (· exact rfl)) | (apply Loads.rrow; (· assumption); (first | (rotate_left; (· exact rfl); rotate_right; (· assumption)) | ((· assumption); (· exact rfl))); (· exact rfl); (· exact rfl); (· exact rfl)) | (apply Loads.rrow1; (· assumption); (first | (rotate_left; (· exact rfl); rotate_right; (· assumption)) | ((· assumption); (· exact rfl))); (· exact rfl)) | (apply Loads.rrowF; (· assumption); (first | (rotate_left; (· exact rfl); rotate_right; (· assumption)) | ((· assumption); (· exact rfl))); (· exact rfl); (· exact rfl)) | (apply Loads.rowS; (· (repeat (first | exact List.Mem.head _ | apply List.Mem.tail))); (first | (rotate_left; (· exact rfl); rotate_right; (· assumption)) | ((· assumption); (· exact rfl))); (· exact rfl); (· exact rfl); (· (repeat (first | exact Seg.nil | (apply Seg.cons; (· exact rfl))))))))))); (· exact rfl)))
  · exact ⟨_, rfl, rfl, rfl⟩
theorem back_any (l : List UInt8) (w0 : World) (m : Mem) (H : SHeap) : Does Try.prog 50 #[str l] w0 m H (IterOf 76 l m H) := by
  refine Does.of_body (args := [str l]) Try.func50 rfl Try.ntmps50 rfl ?_
  (try (refine st ?_; intros))
  apply WQ.fin
  · (first | (apply res_tmp; (· exact rfl); (· exact rfl)) | (apply res_cell; (· exact rfl); (· exact rfl); (· (first | (apply Loads.one; (· exact rfl); (· first | (apply Cell.blk; (· (repeat (first | exact List.Mem.head _ | apply List.Mem.tail))); (· exact rfl)) | (apply Cell.mem; (· assumption); (· exact rfl)))) | (apply Loads.whole; (· exact rfl); (· exact rfl); (· (repeat (first | exact List.Mem.head _ | apply List.Mem.tail))); (· exact rfl)) | (apply Loads.blk; (· exact rfl); (· exact rfl); (· (repeat (first | exact List.Mem.head _ | apply List.Mem.tail))); (· (repeat (first | exact Seg.nil | (apply Seg.cons; (· exact rfl)))))) | (apply Loads.row; (· (repeat (first | exact List.Mem.head _ | apply List.Mem.tail))); (first | (rotate_left; (· exact rfl); rotate_right; (· assumption)) | ((· assumption); (· exact rfl))); (· exact rfl); (· exact rfl); (· exact rfl)) | (apply Loads.row1; (· (repeat (first | exact List.Mem.head _ | apply List.Mem.tail))); (first | (rotate_left; (· exact rfl); rotate_right; (· assumption)) | ((· assumption); (· exact rfl))); (· exact rfl)) | (apply Loads.rowF; (· (repeat (first | exact List.Mem.head _ | apply List.Mem.tail))); (first | (rotate_left; (· exact rfl); rotate_right; (· assumption)) | ((· assumption); (· exact rfl))); (· exact rfl); (· exact rfl)) | (apply Loads.prow; (· assumption); (first | (rotate_left; (· exact rfl); rotate_right; (· assumption)) | ((· assumption); (· exact rfl))); (· exact rfl); (· exact rfl); (· exact rfl)) | (apply Loads.prow1; (· assumption); (first | (rotate_left; (· exact rfl); rotate_right; (· assumption)) | ((· assumption); (· exact rfl))); (· exact rfl)) | (apply Loads.prowF; (· assumption); (first | (rotate_left; (· exact rfl); rotate_right; (· assumption)) | ((· assumption); (· exact rfl))); (· exact rfl); (· exact rfl)) | (apply Loads.rrow; (· assumption); (first | (rotate_left; (· exact rfl); rotate_right; (· assumption)) | ((· assumption); (· exact rfl))); (· exact rfl); (· exact rfl); (· exact rfl)) | (apply Loads.rrow1; (· assumption); (first | (rotate_left; (· exact rfl); rotate_right; (· assumption)) | ((· assumption); (· exact rfl))); (· exact rfl)) | (apply Loads.rrowF; (· assumption); (first | (rotate_left; (· exact rfl); rotate_right; (· assumption)) | ((· assumption); (· exact rfl))); (· exact rfl); (· exact rfl)) | (apply Loads.rowS; (· (repeat (first | exact List.Mem.head _ | apply List.Mem.tail))); (first | (rotate_left; (· exact rfl); rotate_right; (· assumption)) | ((· assumption); (· exact rfl))); (· exact rfl); (· exact rfl); (· (repeat (first | exact Seg.nil | (apply Seg.cons; (· exact rfl))))))))) | (apply res_none; exact rfl) | (apply res_many; (· exact rfl); (· repeat (first | exact ResAll.nil | (apply ResAll.tmp; (· exact rfl)) | (apply ResAll.cell; (· exact rfl); (· (first | (apply Loads.one; (· exact rfl); (· first | (apply Cell.blk; (· (repeat (first | exact List.Mem.head _ | apply List.Mem.tail))); (· exact rfl)) | (apply Cell.mem; (· assumption); (· exact rfl)))) | (apply Loads.whole; (· exact rfl); (· exact rfl); (· (repeat (first | exact List.Mem.head _ | apply List.Mem.tail))); (· exact rfl)) | (apply Loads.blk; (· exact rfl); (· exact rfl); (· (repeat (first | exact List.Mem.head _ | apply List.Mem.tail))); (· (repeat (first | exact Seg.nil | (apply Seg.cons; (· exact rfl)))))) | (apply Loads.row; (· (repeat (first | exact List.Mem.head _ | apply List.Mem.tail))); (first | (rotate_left; (· exact rfl); rotate_right; (· assumption)) | ((· assumption); (· exact rfl))); (· exact rfl); (· exact rfl); (· exact rfl)) | (apply Loads.row1; (· (repeat (first | exact List.Mem.head _ | apply List.Mem.tail))); (first | (rotate_left; (· exact rfl); rotate_right; (· assumption)) | ((· assumption); (· exact rfl))); (· exact rfl)) | (apply Loads.rowF; (· (repeat (first | exact List.Mem.head _ | apply List.Mem.tail))); (first | (rotate_left; (· exact rfl); rotate_right; (· assumption)) | ((· assumption); (· exact rfl))); (· exact rfl); (· exact rfl)) | (apply Loads.prow; (· assumption); (first | (rotate_left; (· exact rfl); rotate_right; (· assumption)) | ((· assumption); (· exact rfl))); (· exact rfl); (· exact rfl); (· exact rfl)) | (apply Loads.prow1; (· assumption); (first | (rotate_left; (· exact rfl); rotate_right; (· assumption)) | ((· assumption); (· exact rfl))); (· exact rfl)) | (apply Loads.prowF; (· assumption); (first | (rotate_left; (· exact rfl); rotate_right; (· assumption)) | ((· assumption); (· exact rfl))); (· exact rfl); (· exact rfl)) | (apply Loads.rrow; (· assumption); (first | (rotate_left; (· exact rfl); rotate_right; (· assumption)) | ((· assumption); (· exact rfl))); (· exact rfl); (· exact rfl); (· exact rfl)) | (apply Loads.rrow1; (· assumption); (first | (rotate_left; (· exact rfl); rotate_right; (· assumption)) | ((· assumption); (· exact rfl))); (· exact rfl)) | (apply Loads.rrowF; (· assumption); (first | (rotate_left; (· exact rfl); rotate_right; (· assumption)) | ((· assumption); (· exact rfl))); (· exact rfl); (· exact rfl)) | (apply Loads.rowS; (· (repeat (first | exact List.Mem.head _ | apply List.Mem.tail))); (first | (rotate_left; (· exact rfl); rotate_right; (· assumption)) | ((· assumption); (· exact rfl))); (· exact rfl); (· exact rfl); (· (repeat (first | exact Seg.nil | (apply Seg.cons; (· exact rfl))))))))))); (· exact rfl)))
  · exact ⟨_, rfl, rfl, rfl⟩
theorem pieces_seq (l : List UInt8) (hl : l.length ≤ 9223372036854775804) (b : Nat) : SeqC Try.prog 75 [.pointer (some ⟨b, 0, none⟩)] (fun p : Pc => [p.v]) (pieces l) (TextAt b l) := by
  intro w0 lp J Jx m H hcap h0 hY
  have hcap' : m b = some (.cells [str l].toArray 9 (0, 0)) := hcap
  refine Does.of_body Try.func75 rfl Try.ntmps75 rfl ?_
  (try (refine st ?_; intros))
  refine WC.loopW [(5, _), (0, .func (.yield lp) #[] #[]), (1, .pointer (some ⟨b, 0, none⟩))] ?_ (fun j r ds m' H' => ∃ k pre H1 it, j = l.length - k ∧ r = [(5, .pointer (some ⟨it, 0, none⟩)), (0, .func (.yield lp) #[] #[]), (1, .pointer (some ⟨b, 0, none⟩))] ∧ ds = [] ∧ H' = .blk it (.stringIter ⟨l.toArray⟩ k) :: H1 ∧ m.le m' ∧ pieces l = pre ++ from_ l k ∧ J pre m' H1) l.length ⟨0, [], H, _, rfl, rfl, rfl, rfl, Mem.le.refl _, rfl, h0⟩ ?_
  · (repeat (first | exact Env.Sub.nil | refine Env.Sub.cons rfl ?_))
  rintro j r ds m1 H1 ⟨k, pre, H1, it, rfl, rfl, rfl, rfl, hle, hp, hJ⟩
  have hcap1 := hle _ _ hcap'
  by_cases hk : k < l.length
  · have hw := readP_w hk
    rw [from_cons hk] at hp
    (try (refine st ?_; intros))
    refine w_callF Try.func73 ?_ (hs := read_any l k hl hk _ _ _)
    rintro _ _ _ ⟨rfl, rfl, rfl⟩
    (try (refine st ?_; intros))
    rw [readP_w_eq] at hp hw
    apply WL.yield
    · exact rfl
    · exact rfl
    · exact rfl
    · exact hY pre (readP l k) _ hp _ H1 [_] hJ hle
    · rintro m2 _ ⟨H2, rfl, hJ2, hle2⟩
      (try (refine st ?_; intros))
      refine WQ.next (l.length - (k + (dl (l.drop k)).2)) ⟨_, pre ++ [readP l k], H2, it, rfl, rfl, rfl, rfl, hle.trans hle2, by rw [hp]; simp, hJ2⟩ (by omega) zsb (fun w h => h)
    · rintro m2 _ ⟨H2, rfl, hJ2, hle2⟩
      (try (refine st ?_; intros))
      (refine q_fin0 ?_)
      exact ⟨hle.trans hle2, .inr ⟨pre ++ [readP l k], ⟨from_ l (k + (dl (l.drop k)).2), by rw [hp]; simp⟩, hJ2⟩⟩
  · rw [from_nil hk, List.append_nil] at hp
    (try (refine st ?_; intros))
    apply WQ.finNorm
    · (first | (apply res_tmp; (· exact rfl); (· exact rfl)) | (apply res_cell; (· exact rfl); (· exact rfl); (· (first | (apply Loads.one; (· exact rfl); (· first | (apply Cell.blk; (· (repeat (first | exact List.Mem.head _ | apply List.Mem.tail))); (· exact rfl)) | (apply Cell.mem; (· assumption); (· exact rfl)))) | (apply Loads.whole; (· exact rfl); (· exact rfl); (· (repeat (first | exact List.Mem.head _ | apply List.Mem.tail))); (· exact rfl)) | (apply Loads.blk; (· exact rfl); (· exact rfl); (· (repeat (first | exact List.Mem.head _ | apply List.Mem.tail))); (· (repeat (first | exact Seg.nil | (apply Seg.cons; (· exact rfl)))))) | (apply Loads.row; (· (repeat (first | exact List.Mem.head _ | apply List.Mem.tail))); (first | (rotate_left; (· exact rfl); rotate_right; (· assumption)) | ((· assumption); (· exact rfl))); (· exact rfl); (· exact rfl); (· exact rfl)) | (apply Loads.row1; (· (repeat (first | exact List.Mem.head _ | apply List.Mem.tail))); (first | (rotate_left; (· exact rfl); rotate_right; (· assumption)) | ((· assumption); (· exact rfl))); (· exact rfl)) | (apply Loads.rowF; (· (repeat (first | exact List.Mem.head _ | apply List.Mem.tail))); (first | (rotate_left; (· exact rfl); rotate_right; (· assumption)) | ((· assumption); (· exact rfl))); (· exact rfl); (· exact rfl)) | (apply Loads.prow; (· assumption); (first | (rotate_left; (· exact rfl); rotate_right; (· assumption)) | ((· assumption); (· exact rfl))); (· exact rfl); (· exact rfl); (· exact rfl)) | (apply Loads.prow1; (· assumption); (first | (rotate_left; (· exact rfl); rotate_right; (· assumption)) | ((· assumption); (· exact rfl))); (· exact rfl)) | (apply Loads.prowF; (· assumption); (first | (rotate_left; (· exact rfl); rotate_right; (· assumption)) | ((· assumption); (· exact rfl))); (· exact rfl); (· exact rfl)) | (apply Loads.rrow; (· assumption); (first | (rotate_left; (· exact rfl); rotate_right; (· assumption)) | ((· assumption); (· exact rfl))); (· exact rfl); (· exact rfl); (· exact rfl)) | (apply Loads.rrow1; (· assumption); (first | (rotate_left; (· exact rfl); rotate_right; (· assumption)) | ((· assumption); (· exact rfl))); (· exact rfl)) | (apply Loads.rrowF; (· assumption); (first | (rotate_left; (· exact rfl); rotate_right; (· assumption)) | ((· assumption); (· exact rfl))); (· exact rfl); (· exact rfl)) | (apply Loads.rowS; (· (repeat (first | exact List.Mem.head _ | apply List.Mem.tail))); (first | (rotate_left; (· exact rfl); rotate_right; (· assumption)) | ((· assumption); (· exact rfl))); (· exact rfl); (· exact rfl); (· (repeat (first | exact Seg.nil | (apply Seg.cons; (· exact rfl))))))))) | (apply res_none; exact rfl) | (apply res_many; (· exact rfl); (· repeat (first | exact ResAll.nil | (apply ResAll.tmp; (· exact rfl)) | (apply ResAll.cell; (· exact rfl); (· (first | (apply Loads.one; (· exact rfl); (· first | (apply Cell.blk; (· (repeat (first | exact List.Mem.head _ | apply List.Mem.tail))); (· exact rfl)) | (apply Cell.mem; (· assumption); (· exact rfl)))) | (apply Loads.whole; (· exact rfl); (· exact rfl); (· (repeat (first | exact List.Mem.head _ | apply List.Mem.tail))); (· exact rfl)) | (apply Loads.blk; (· exact rfl); (· exact rfl); (· (repeat (first | exact List.Mem.head _ | apply List.Mem.tail))); (· (repeat (first | exact Seg.nil | (apply Seg.cons; (· exact rfl)))))) | (apply Loads.row; (· (repeat (first | exact List.Mem.head _ | apply List.Mem.tail))); (first | (rotate_left; (· exact rfl); rotate_right; (· assumption)) | ((· assumption); (· exact rfl))); (· exact rfl); (· exact rfl); (· exact rfl)) | (apply Loads.row1; (· (repeat (first | exact List.Mem.head _ | apply List.Mem.tail))); (first | (rotate_left; (· exact rfl); rotate_right; (· assumption)) | ((· assumption); (· exact rfl))); (· exact rfl)) | (apply Loads.rowF; (· (repeat (first | exact List.Mem.head _ | apply List.Mem.tail))); (first | (rotate_left; (· exact rfl); rotate_right; (· assumption)) | ((· assumption); (· exact rfl))); (· exact rfl); (· exact rfl)) | (apply Loads.prow; (· assumption); (first | (rotate_left; (· exact rfl); rotate_right; (· assumption)) | ((· assumption); (· exact rfl))); (· exact rfl); (· exact rfl); (· exact rfl)) | (apply Loads.prow1; (· assumption); (first | (rotate_left; (· exact rfl); rotate_right; (· assumption)) | ((· assumption); (· exact rfl))); (· exact rfl)) | (apply Loads.prowF; (· assumption); (first | (rotate_left; (· exact rfl); rotate_right; (· assumption)) | ((· assumption); (· exact rfl))); (· exact rfl); (· exact rfl)) | (apply Loads.rrow; (· assumption); (first | (rotate_left; (· exact rfl); rotate_right; (· assumption)) | ((· assumption); (· exact rfl))); (· exact rfl); (· exact rfl); (· exact rfl)) | (apply Loads.rrow1; (· assumption); (first | (rotate_left; (· exact rfl); rotate_right; (· assumption)) | ((· assumption); (· exact rfl))); (· exact rfl)) | (apply Loads.rrowF; (· assumption); (first | (rotate_left; (· exact rfl); rotate_right; (· assumption)) | ((· assumption); (· exact rfl))); (· exact rfl); (· exact rfl)) | (apply Loads.rowS; (· (repeat (first | exact List.Mem.head _ | apply List.Mem.tail))); (first | (rotate_left; (· exact rfl); rotate_right; (· assumption)) | ((· assumption); (· exact rfl))); (· exact rfl); (· exact rfl); (· (repeat (first | exact Seg.nil | (apply Seg.cons; (· exact rfl))))))))))); (· exact rfl)))
    · exact ⟨hle, .inl (by rw [hp]; exact hJ)⟩
end Go.Proofs.Ytljfncpecpkhhaa

/-
  Plain facts on the pieces of a text, second part: pieces lie in step with the forms; the last piece. No condition.
-/
set_option linter.all false
namespace Go.Eng
open Go
set_option linter.all false
theorem fm_lead {c : Nat} (hc : c ≤ 1114111) : (fm c).getD 0 0 < 128 ∨ (192 ≤ (fm c).getD 0 0) := by
  unfold fm
  split
  · left; simpa
  · split
    · right; simp
    · split
      · right; simp; omega
      · right; simp; omega
theorem fm_cont {c i : Nat} (h1 : 1 ≤ i) (h2 : i < wd c) : 128 ≤ (fm c).getD i 0 ∧ (fm c).getD i 0 < 192 := by
  unfold fm
  unfold wd at h2
  split at h2
  · omega
  · rename_i h3
    rw [if_neg h3]
    split at h2
    · rename_i h4
      rw [if_pos h4]
      have : i = 1 := by omega
      subst this
      simp; omega
    · rename_i h4
      rw [if_neg h4]
      split at h2
      · rename_i h5
        rw [if_pos h5]
        obtain rfl | rfl : i = 1 ∨ i = 2 := by omega
        · simp; omega
        · simp; omega
      · rename_i h5
        rw [if_neg h5]
        obtain rfl | rfl | rfl : i = 1 ∨ i = 2 ∨ i = 3 := by omega
        · simp; omega
        · simp; omega
        · simp; omega
theorem head_lead {l : List UInt8} (hl : 0 < l.length) (h : ¬ dl l = (65533, 1)) : gb l 0 < 128 ∨ 192 ≤ gb l 0 := by
  rcases dl_cases l hl with ⟨h1, h2, h3⟩ | ⟨h1, _⟩
  · have := h3.2 0 (wd_pos _).1
    rw [show gb l 0 = nb l 0 from rfl, this]
    exact fm_lead (okr_le h1)
  · exact absurd h1 h
theorem tail_cont {l : List UInt8} (hl : 0 < l.length) {i : Nat} (h1 : 1 ≤ i) (h2 : i < (dl l).2) : 128 ≤ gb l i ∧ gb l i < 192 := by
  rcases dl_cases l hl with ⟨g1, g2, g3⟩ | ⟨g1, _⟩
  · rw [g2] at h2
    have := g3.2 i h2
    rw [show gb l i = nb l i from rfl, this]
    exact fm_cont h1 h2
  · rw [g1] at h2; simp at h2; omega
/-- a place where a piece begins -/
def Reach (l : List UInt8) (j : Nat) : Prop := ∃ pre, pieces l = pre ++ from_ l j
theorem Reach.zero (l : List UInt8) : Reach l 0 := ⟨[], rfl⟩
theorem Reach.step {l : List UInt8} {j : Nat} (h : Reach l j) (hj : j < l.length) : Reach l (j + (readP l j).w) := by
  obtain ⟨pre, h⟩ := h
  exact ⟨pre ++ [readP l j], by rw [h, from_cons hj]; simp⟩
theorem reach_lead {l : List UInt8} {j : Nat} (hj : j < l.length) (hlead : gb l j < 128 ∨ 192 ≤ gb l j) : ∀ d i, j - i ≤ d → i ≤ j → Reach l i → Reach l j
  | 0, i, hd, hi, h => by
    have : i = j := by omega
    subst this; exact h
  | d + 1, i, hd, hi, h => by
    by_cases e : i = j
    · subst e; exact h
    · have hil : i < l.length := by omega
      have hw := readP_w hil
      have h2 : i + (readP l i).w ≤ j := by
        rw [readP_w_eq]
        rcases Nat.lt_or_ge j (i + (dl (l.drop i)).2) with hlt | hge
        · exfalso
          have := tail_cont (l := l.drop i) (by simp; omega) (i := j - i) (by omega) (by omega)
          rw [show gb (l.drop i) (j - i) = gb l (i + (j - i)) from nb_drop l i (j - i), show i + (j - i) = j by omega] at this
          omega
        · exact hge
      exact reach_lead hj hlead d _ (by omega) h2 (h.step hil)
/-- what begins whole at a place begins a piece -/
theorem reach_whole {l : List UInt8} {j : Nat} (hj : j < l.length) (h : (readP l j).b = false) : Reach l j := by
  have h1 : ¬ dl (l.drop j) = (65533, 1) := by
    intro h2
    simp [readP, h2] at h
  have := head_lead (l := l.drop j) (by simp; omega) h1
  rw [show gb (l.drop j) 0 = gb l (j + 0) from nb_drop l j 0] at this
  exact reach_lead hj this j 0 (by omega) (by omega) (Reach.zero l)
theorem readP_b {l : List UInt8} {j : Nat} (h : (readP l j).b = true) : (readP l j).w = 1 := by
  unfold readP at h ⊢
  split
  · rfl
  · rename_i h2
    rw [if_neg h2] at h
    cases h
theorem exists_last (l : List UInt8) : ∀ d i, l.length - i ≤ d → i < l.length → Reach l i → ∃ j, Reach l j ∧ j < l.length ∧ j + (readP l j).w = l.length
  | 0, i, hd, hi, _ => by omega
  | d + 1, i, hd, hi, h => by
    have hw := readP_w hi
    by_cases e : i + (readP l i).w = l.length
    · exact ⟨i, h, hi, e⟩
    · exact exists_last l d _ (by omega) (by omega) (h.step hi)
def lastP (l : List UInt8) : Pc := (pieces l).getLastD ⟨0, 0, 0, false⟩
theorem lastP_of {l : List UInt8} {j : Nat} (h : Reach l j) (hj : j < l.length) (he : j + (readP l j).w = l.length) : lastP l = readP l j := by
  obtain ⟨pre, h⟩ := h
  rw [from_cons hj, he, from_nil (by omega)] at h
  simp [lastP, h]
theorem lastP_whole {l : List UInt8} {w : Nat} (hw : w ≤ l.length) (h1 : 1 ≤ w) (hb : (readP l (l.length - w)).b = false) (he : (readP l (l.length - w)).w = w) : lastP l = readP l (l.length - w) :=
  lastP_of (reach_whole (by omega) hb) (by omega) (by omega)
theorem lastP_one {l : List UInt8} (hl : 0 < l.length) (h : ∀ w, 2 ≤ w → w ≤ 4 → w ≤ l.length → ¬ ((readP l (l.length - w)).b = false ∧ (readP l (l.length - w)).w = w)) : lastP l = readP l (l.length - 1) := by
  obtain ⟨j, h1, h2, h3⟩ := exists_last l l.length 0 (by omega) hl (Reach.zero l)
  have hw := readP_w h2
  rw [lastP_of h1 h2 h3]
  by_cases e : (readP l j).w = 1
  · rw [show l.length - 1 = j by omega]
  · exfalso
    refine h (readP l j).w (by omega) (by omega) (by omega) ?_
    rw [show l.length - (readP l j).w = j by omega]
    refine ⟨?_, rfl⟩
    cases hb : (readP l j).b with
    | false => rfl
    | true => exact absurd (readP_b hb) e
end Go.Eng

/-
  Plain facts on the pieces of a text, third part: which places are boundaries, and what stands around a place. No condition.
-/
set_option linter.all false
namespace Go.Eng
open Go
set_option linter.all false
theorem from_split (l : List UInt8) : ∀ d k, l.length - k ≤ d → ∀ pre p post, from_ l k = pre ++ p :: post → k ≤ p.at_ ∧ p.at_ < l.length ∧ p = readP l p.at_ ∧ p :: post = from_ l p.at_ ∧ (∀ q ∈ pre, q.at_ < p.at_)
  | 0, k, hd, pre, p, post, h => by
    rw [from_nil (by omega)] at h; simp at h
  | d + 1, k, hd, pre, p, post, h => by
    by_cases hk : k < l.length
    · have hw := readP_w hk
      have h' := h
      rw [from_cons hk] at h
      cases pre with
      | nil =>
        simp only [List.nil_append, List.cons.injEq] at h
        obtain ⟨rfl, h2⟩ := h
        have ha := readP_at l k
        refine ⟨by omega, by omega, by rw [ha], by rw [ha, from_cons hk, h2], by simp⟩
      | cons q pre =>
        simp only [List.cons_append, List.cons.injEq] at h
        obtain ⟨rfl, h2⟩ := h
        obtain ⟨g1, g2, g3, g4, g5⟩ := from_split l d _ (by omega) pre p post h2
        refine ⟨by omega, g2, g3, g4, fun q hq => ?_⟩
        rcases List.mem_cons.1 hq with rfl | hq
        · rw [readP_at]; omega
        · exact g5 q hq
    · rw [from_nil hk] at h; simp at h
theorem pieces_split {l : List UInt8} {pre post : List Pc} {p : Pc} (h : pieces l = pre ++ p :: post) : p.at_ < l.length ∧ p = readP l p.at_ ∧ p :: post = from_ l p.at_ ∧ (∀ q ∈ pre, q.at_ < p.at_) :=
  (from_split l l.length 0 (by omega) pre p post h).2
theorem reach_of_mem {l : List UInt8} {p : Pc} (h : p ∈ pieces l) : Reach l p.at_ ∧ p.at_ < l.length ∧ p = readP l p.at_ := by
  obtain ⟨pre, post, e⟩ := List.append_of_mem h
  obtain ⟨h1, h2, h3, _⟩ := pieces_split e
  exact ⟨⟨pre, by rw [e, h3]⟩, h1, h2⟩
theorem reach_mem {l : List UInt8} {k : Nat} (h : Reach l k) (hk : k < l.length) : readP l k ∈ pieces l := by
  obtain ⟨pre, e⟩ := h
  rw [e, from_cons hk]; simp
/-- what lies ahead of a place where a piece begins, and what from it on -/
theorem reach_parts {l : List UInt8} {k : Nat} (h : Reach l k) : ∃ pre, pieces l = pre ++ from_ l k ∧ (∀ q ∈ pre, q.at_ < k ∨ l.length ≤ k) ∧ (∀ q ∈ from_ l k, k ≤ q.at_) := by
  obtain ⟨pre, e⟩ := h
  refine ⟨pre, e, fun q hq => ?_, fun q hq => ?_⟩
  · by_cases hk : k < l.length
    · rw [from_cons hk] at e
      have := (pieces_split e).2.2.2 q hq
      rw [readP_at] at this
      exact .inl this
    · exact .inr (by omega)
  · obtain ⟨a, b, e2⟩ := List.append_of_mem hq
    exact (from_split l l.length k (by omega) a q b e2).1
/-- within a piece no piece begins -/
theorem not_reach_within {l : List UInt8} {i j : Nat} (hi : i < l.length) (h : Reach l i) (h1 : i < j) (h2 : j < i + (readP l i).w) : ¬ Reach l j := by
  intro hj
  have hw := readP_w hi
  have hjl : j < l.length := by omega
  obtain ⟨pre, e, g1, g2⟩ := reach_parts h
  have hm := reach_mem hj hjl
  rw [e, List.mem_append] at hm
  rcases hm with hm | hm
  · rcases g1 _ hm with g | g
    · rw [readP_at] at g; omega
    · omega
  · rw [from_cons hi] at hm
    rcases List.mem_cons.1 hm with hm | hm
    · have := congrArg Pc.at_ hm
      rw [readP_at, readP_at] at this; omega
    · obtain ⟨a, b, e2⟩ := List.append_of_mem hm
      have := (from_split l l.length _ (by omega) a _ b e2).1
      rw [readP_at] at this; omega
theorem exists_around {l : List UInt8} {j : Nat} (hj : j < l.length) : ∀ d i, j - i ≤ d → i ≤ j → Reach l i → ∃ k, Reach l k ∧ k ≤ j ∧ j < k + (readP l k).w
  | 0, i, hd, hi, h => by
    have hw := readP_w (l := l) (k := i) (by omega)
    exact ⟨i, h, hi, by omega⟩
  | d + 1, i, hd, hi, h => by
    have hw := readP_w (l := l) (k := i) (by omega)
    by_cases e : j < i + (readP l i).w
    · exact ⟨i, h, hi, e⟩
    · exact exists_around hj d _ (by omega) (by omega) (h.step (by omega))
/-- a place within a form: where the form begins -/
def Within (l : List UInt8) (at_ i : Nat) : Prop := i < at_ ∧ at_ < i + (readP l i).w ∧ (readP l i).b = false
theorem within_reach {l : List UInt8} {at_ i : Nat} (ha : at_ ≤ l.length) (h : Within l at_ i) : Reach l i ∧ i < l.length ∧ at_ ≤ i + 3 ∧ at_ < l.length := by
  obtain ⟨h1, h2, h3⟩ := h
  have hi : i < l.length := by omega
  have hw := readP_w hi
  exact ⟨reach_whole hi h3, hi, by omega, by omega⟩
theorem within_iff {l : List UInt8} {at_ : Nat} (ha : at_ ≤ l.length) : (∃ i, Within l at_ i) ↔ ¬ (at_ = l.length ∨ Reach l at_) := by
  constructor
  · rintro ⟨i, h⟩ hr
    obtain ⟨r1, i1, i2, i3⟩ := within_reach ha h
    rcases hr with hr | hr
    · omega
    · exact not_reach_within i1 r1 h.1 h.2.1 hr
  · intro hn
    have hlt : at_ < l.length := by
      rcases Nat.lt_or_ge at_ l.length with h | h
      · exact h
      · exact absurd (.inl (by omega)) hn
    obtain ⟨k, h1, h2, h3⟩ := exists_around hlt at_ 0 (by omega) (by omega) (Reach.zero l)
    refine ⟨k, ?_, h3, ?_⟩
    · rcases Nat.lt_or_ge k at_ with h | h
      · exact h
      · have : k = at_ := by omega
        subst this
        exact absurd (.inr h1) hn
    · cases hb : (readP l k).b with
      | false => rfl
      | true =>
        have := readP_b hb
        have : k = at_ := by omega
        subst this
        exact absurd (.inr h1) hn
end Go.Eng

/-
  Plain facts: pieces that two texts have alike, their order; a rune's first piece. No condition.
-/
set_option linter.all false
namespace Go.Eng
open Go
/-- a piece's place in the order of pieces -/
def wt (l : List UInt8) (p : Pc) : Nat := if p.b then 16777216 + gb l p.at_ else p.r
def cm : List Nat → List Nat → Nat
  | x :: X, y :: Y => if x = y then cm X Y + 1 else 0
  | _, _ => 0
def cmpL : List Nat → List Nat → Int
  | [], [] => 0
  | [], _ :: _ => -1
  | _ :: _, [] => 1
  | x :: X, y :: Y => if x = y then cmpL X Y else if x < y then -1 else 1
theorem cm_pre : ∀ (P X Y : List Nat), cm (P ++ X) (P ++ Y) = P.length + cm X Y
  | [], X, Y => by simp
  | p :: P, X, Y => by simp [cm, cm_pre P X Y]; omega
theorem cmpL_pre : ∀ (P X Y : List Nat), cmpL (P ++ X) (P ++ Y) = cmpL X Y
  | [], X, Y => rfl
  | p :: P, X, Y => by simp [cmpL, cmpL_pre P X Y]
/-- two rows that have nothing alike at their heads -/
def stop : List Nat → List Nat → Prop
  | x :: _, y :: _ => x ≠ y
  | _, _ => True
theorem readP_cases {l : List UInt8} {k : Nat} (hk : k < l.length) : ((readP l k).b = true ∧ (readP l k).w = 1 ∧ (readP l k).r = 65533) ∨ ((readP l k).b = false ∧ (readP l k).w = wd (readP l k).r ∧ (readP l k).r ≤ 1114111) := by
  unfold readP
  split
  · exact .inl ⟨rfl, rfl, rfl⟩
  · rename_i h
    rcases dl_cases (l.drop k) (by simp; omega) with ⟨h1, h2, _⟩ | ⟨h2, _⟩
    · exact .inr ⟨rfl, h2, okr_le h1⟩
    · exact absurd h2 h
theorem wt_read {l : List UInt8} {k : Nat} : wt l (readP l k) = if (readP l k).b then 16777216 + gb l k else (readP l k).r := by unfold wt; rw [readP_at]
/-- so far all is alike -/
def Sh (a b : List UInt8) (n k : Nat) : Prop := ∃ pa pb, pieces a = pa ++ from_ a k ∧ pieces b = pb ++ from_ b k ∧ pa.length = n ∧ pb.length = n ∧ pa.map (wt a) = pb.map (wt b) ∧ k ≤ a.length ∧ k ≤ b.length
theorem Sh.start (a b : List UInt8) : Sh a b 0 0 := ⟨[], [], rfl, rfl, rfl, rfl, rfl, by omega, by omega⟩
theorem wt_same {a b : List UInt8} {k : Nat} (ha : k < a.length) (hb : k < b.length) : wt a (readP a k) = wt b (readP b k) ↔ readP a k = readP b k ∧ ((readP a k).b = true → gb a k = gb b k) := by
  rw [wt_read, wt_read]
  have h1 := readP_at a k
  have h2 := readP_at b k
  have h3 := gb_lt a k
  have h4 := gb_lt b k
  have e1 := readP_cases ha
  have e2 := readP_cases hb
  generalize readP a k = p at *
  generalize readP b k = q at *
  obtain ⟨pa, pw, pr, pb⟩ := p
  obtain ⟨qa, qw, qr, qb⟩ := q
  simp only at *
  subst h1; subst h2
  simp only [Pc.mk.injEq]
  rcases e1 with ⟨rfl, rfl, rfl⟩ | ⟨rfl, rfl, h5⟩ <;> rcases e2 with ⟨rfl, rfl, rfl⟩ | ⟨rfl, rfl, h6⟩
  · simp
  · simp; omega
  · simp; omega
  · simp; intro h; rw [h]
theorem Sh.next {a b : List UInt8} {n k : Nat} (h : Sh a b n k) (ha : k < a.length) (hb : k < b.length) (hw : wt a (readP a k) = wt b (readP b k)) : Sh a b (n + 1) (k + (readP a k).w) := by
  obtain ⟨pa, pb, h1, h2, h3, h4, h5, h6, h7⟩ := h
  have he := ((wt_same ha hb).1 hw).1
  rw [from_cons ha] at h1
  rw [from_cons hb] at h2
  have w1 := readP_w ha
  have w2 := readP_w hb
  refine ⟨pa ++ [readP a k], pb ++ [readP b k], by simpa using h1, by rw [he]; simpa using h2, by simp [h3], by simp [h4], by simp [h5, hw], by omega, by rw [he]; omega⟩
theorem Sh.done {a b : List UInt8} {n k : Nat} (h : Sh a b n k) (hs : k = a.length ∨ k = b.length ∨ wt a (readP a k) ≠ wt b (readP b k)) :
    n = cm ((pieces a).map (wt a)) ((pieces b).map (wt b)) ∧ cmpL ((pieces a).map (wt a)) ((pieces b).map (wt b)) = if k = a.length ∧ k = b.length then 0 else if k = a.length then -1 else if k = b.length then 1 else if wt a (readP a k) < wt b (readP b k) then -1 else 1 := by
  obtain ⟨pa, pb, h1, h2, h3, h4, h5, h6, h7⟩ := h
  rw [h1, h2, List.map_append, List.map_append, ← h5, cm_pre, cmpL_pre, List.length_map, h3]
  rcases Nat.lt_or_eq_of_le h6 with ha | ha
  · rw [from_cons ha]
    rcases Nat.lt_or_eq_of_le h7 with hb | hb
    · rw [from_cons hb]
      have hne : wt a (readP a k) ≠ wt b (readP b k) := by omega
      simp only [List.map_cons, cm, cmpL, if_neg hne]
      refine ⟨by omega, ?_⟩
      simp [show ¬ k = a.length by omega, show ¬ k = b.length by omega]
    · rw [from_nil (l := b) (k := k) (by omega)]
      simp only [List.map_cons, List.map_nil, cm, cmpL]
      refine ⟨by omega, ?_⟩
      rw [if_neg (by omega), if_neg (by omega), if_pos hb]
  · rw [from_nil (l := a) (k := k) (by omega)]
    rcases Nat.lt_or_eq_of_le h7 with hb | hb
    · rw [from_cons hb]
      simp only [List.map_cons, List.map_nil, cm, cmpL]
      refine ⟨by omega, ?_⟩
      rw [if_neg (by omega), if_pos ha]
    · rw [from_nil (l := b) (k := k) (by omega)]
      simp only [List.map_nil, cm, cmpL]
      refine ⟨by omega, ?_⟩
      rw [if_pos ⟨ha, hb⟩]
/-- the place of a rune's first piece -/
def idx : List Pc → Int → Int
  | [], _ => -1
  | p :: ps, r => if (p.r : Int) = r ∧ p.b = false then (p.at_ : Int) else idx ps r
def noIdx (ps : List Pc) (r : Int) : Prop := ∀ p ∈ ps, ¬ ((p.r : Int) = r ∧ p.b = false)
end Go.Eng

/-
  Plain facts on the pieces of a text, fourth part: the boundaries as a row of numbers, and the ones next to a place. No condition.
-/
set_option linter.all false
namespace Go.Eng
open Go
set_option linter.all false
/-- the boundaries of a text -/
def endsOf (l : List UInt8) : List Nat := (pieces l).map Pc.at_ ++ [l.length]
def leOf (k : Nat) : List Nat → Nat → Nat
  | [], a => a
  | x :: xs, a => leOf k xs (if x ≤ k then x else a)
def geOf (k : Nat) : List Nat → Nat → Nat
  | [], a => a
  | x :: xs, a => if k ≤ x then x else geOf k xs a
end Go.Eng

/-
  Plain facts: pieces of a text's beginning; a text's pieces as texts; from the end on. No condition.
-/
set_option linter.all false
namespace Go.Eng
open Go
theorem begins_take {l : List UInt8} {c n : Nat} (h : begins (l.take n) c) : begins l c := by
  obtain ⟨h1, h2⟩ := h
  simp only [List.length_take] at h1
  refine ⟨by omega, fun k hk => ?_⟩
  rw [← h2 k hk]
  simp only [nb, gb, List.getD_eq_getElem?_getD, List.length_take]
  rw [List.getElem?_take_of_lt (by omega)]
theorem begins_of_take {l : List UInt8} {c n : Nat} (h : begins l c) (hn : wd c ≤ n) : begins (l.take n) c := by
  obtain ⟨h1, h2⟩ := h
  refine ⟨by simp only [List.length_take]; omega, fun k hk => ?_⟩
  rw [← h2 k hk]
  simp only [nb, gb, List.getD_eq_getElem?_getD, List.length_take]
  rw [List.getElem?_take_of_lt (by omega)]
theorem read_take {l : List UInt8} {k n : Nat} (hk : k + (readP l k).w ≤ n) (hn : n ≤ l.length) (hkl : k < l.length) : readP (l.take n) k = readP l k := by
  have hw := readP_w hkl
  have hd : (l.take n).drop k = (l.drop k).take (n - k) := by rw [List.drop_take]
  have hlen : ((l.drop k).take (n - k)).length = n - k := by simp; omega
  have key : dl ((l.drop k).take (n - k)) = dl (l.drop k) := by
    rcases dl_cases (l.drop k) (by simp; omega) with ⟨h1, h2, h3⟩ | ⟨h1, h2⟩
    · have hwd : (readP l k).w = wd (dl (l.drop k)).1 := by rw [readP_w_eq, h2]
      rw [dl_of_begins h1 (begins_of_take h3 (by omega)), ← h2]
    · rw [h1]
      rcases dl_cases ((l.drop k).take (n - k)) (by omega) with ⟨g1, _, g3⟩ | ⟨g1, _⟩
      · exact absurd (begins_take g3) (h2 _ g1)
      · exact g1
  unfold readP
  rw [hd, key]
theorem from_take {l : List UInt8} {n : Nat} (hn : n ≤ l.length) : ∀ (pre : List Pc) (k : Nat), from_ l k = pre ++ from_ l n → k ≤ n → from_ (l.take n) k = pre
  | [], k, h, hk => by
    rcases Nat.lt_or_eq_of_le hk with hlt | rfl
    · exfalso
      simp only [List.nil_append] at h
      rw [from_cons (by omega)] at h
      by_cases hnl : n < l.length
      · rw [from_cons hnl] at h
        have := congrArg (fun x => (x.head?.map Pc.at_)) h
        simp only [List.head?_cons, Option.map_some, readP_at, Option.some.injEq] at this
        omega
      · rw [from_nil (k := n) hnl] at h; cases h
    · rw [from_nil (by simp; omega)]
  | p :: pre, k, h, hk => by
    have hkl : k < l.length := by
      rcases Nat.lt_or_ge k l.length with h1 | h1
      · exact h1
      · rw [from_nil (by omega)] at h; cases h
    rw [from_cons hkl, List.cons_append] at h
    simp only [List.cons.injEq] at h
    obtain ⟨rfl, h⟩ := h
    have hw := readP_w hkl
    have hle : k + (readP l k).w ≤ n := by
      rcases Nat.lt_or_ge n (k + (readP l k).w) with hlt | hge
      · exfalso
        -- no piece behind k begins at n
        rcases Nat.lt_or_eq_of_le hn with hnl | hnl
        · have hm : readP l n ∈ from_ l (k + (readP l k).w) := by rw [h, from_cons hnl]; exact List.mem_append_right _ List.mem_cons_self
          obtain ⟨A, B, e⟩ := List.append_of_mem hm
          have := (from_split l l.length _ (by omega) _ _ _ e).1
          rw [readP_at] at this; omega
        · omega
      · exact hge
    have hlt : k < (l.take n).length := by simp; omega
    rw [from_cons hlt, read_take hle hn hkl, from_take hn pre _ h hle]
theorem pieces_take {l : List UInt8} {n : Nat} {pre : List Pc} (hn : n ≤ l.length) (h : pieces l = pre ++ from_ l n) : pieces (l.take n) = pre := from_take hn pre 0 h (Nat.zero_le _)
/-- a piece's bytes -/
def txt (l : List UInt8) (p : Pc) : List UInt8 := (l.take (p.at_ + p.w)).drop p.at_
theorem mem_w {l : List UInt8} {p : Pc} (h : p ∈ pieces l) : p.at_ < l.length ∧ 1 ≤ p.w ∧ p.w ≤ 4 ∧ p.at_ + p.w ≤ l.length := by
  obtain ⟨_, h2, h3⟩ := reach_of_mem h
  have := readP_w h2
  rw [← h3] at this
  omega
def mendOf (l w : List UInt8) (ps : List Pc) : List UInt8 := ps.flatMap fun p => if p.b then w else txt l p
def textsOf (l : List UInt8) (ps : List Pc) : List UInt8 := ps.flatMap (txt l)
/-- where the first so many pieces end -/
def cutK (l : List UInt8) (n : Int) : Nat := if n ≤ 0 then 0 else (endsOf l).getD n.toNat l.length
end Go.Eng

/-
  Plain facts: the pieces so far are the text's beginning; places within a form. No condition.
-/
set_option linter.all false
namespace Go.Eng
open Go
end Go.Eng

/-
  Plain facts on the seam of two texts. No condition.
-/
set_option linter.all false
namespace Go.Eng
open Go
theorem nb_cont (l : List UInt8) (k : Nat) : (decide (k < l.length) && nb l k / 64 == 2) = (nb l k / 64 == 2) := by
  by_cases h : k < l.length
  · simp [h]
  · have : nb l k = 0 := by simp [nb, gb, List.getD_eq_getElem?_getD, List.getElem?_eq_none (Nat.le_of_not_lt h)]
    rw [this]; simp
/-- decoding looks at four bytes -/
theorem dl_nb {A B : List UInt8} (h : ∀ k, k < 4 → nb A k = nb B k) : dl A = dl B := by
  have h0 := h 0 (by omega)
  have h1 := h 1 (by omega)
  have h2 := h 2 (by omega)
  have h3 := h 3 (by omega)
  unfold dl
  simp only [nb_cont]
  simp only [h0, h1, h2, h3]
theorem nb_take {l : List UInt8} {n k : Nat} (h : k < n) : nb (l.take n) k = nb l k := by
  simp [nb, gb, List.getD_eq_getElem?_getD, List.getElem?_take_of_lt h]
/-- the text about a seam -/
def about (a b : List UInt8) : List UInt8 := a.drop (a.length - 3) ++ b.take 3
end Go.Eng

/-
  Plain facts on the ends of texts that begin forms. No condition.
-/
set_option linter.all false
namespace Go.Eng
open Go
/-- how many bytes a form has whose first byte this is; 0: none has -/
def ldN (c : Nat) : Nat := if c < 194 ∨ 244 < c then 0 else if c < 224 then 2 else if c < 240 then 3 else 4
theorem ldN_le (c : Nat) : ldN c ≤ 4 := by unfold ldN; split <;> (try split) <;> (try split) <;> omega
def loN (c : Nat) : Nat := if c = 224 then 160 else if c = 240 then 144 else 128
def hiN (c : Nat) : Nat := if c = 237 then 159 else if c = 244 then 143 else 191
/-- a beginning of a form, and no more -/
def begOk (b : List UInt8) : Prop := b.length < ldN (nb b 0) ∧ (1 < b.length → loN (nb b 0) ≤ nb b 1 ∧ nb b 1 ≤ hiN (nb b 0)) ∧ (2 < b.length → 128 ≤ nb b 2 ∧ nb b 2 ≤ 191)
instance (b : List UInt8) : Decidable (begOk b) := by unfold begOk; infer_instance
def lackOf (b : List UInt8) : Nat := if begOk b then ldN (nb b 0) - b.length else 0
def refN (c : Nat) : Nat := if 240 ≤ c then 4 else if 224 ≤ c then 3 else if 192 ≤ c then 2 else 0
theorem nb_lt (l : List UInt8) (k : Nat) : nb l k < 256 := gb_lt l k
theorem dl_two (l : List UInt8) : (dl l).2 = 2 ↔ nb l 0 / 32 = 6 ∧ nb l 1 / 64 = 2 ∧ 128 ≤ (nb l 0 % 32) * 64 + nb l 1 % 64 := by
  have h0 := nb_lt l 0
  unfold dl
  simp only [nb_cont, Bool.and_eq_true, beq_iff_eq, ge_iff_le, decide_eq_true_eq]
  repeat' split
  all_goals first | exact ⟨fun _ => by omega, fun _ => rfl⟩ | exact ⟨fun h => absurd h (by simp), fun h => by omega⟩
theorem dl_three (l : List UInt8) : (dl l).2 = 3 ↔ nb l 0 / 16 = 14 ∧ nb l 1 / 64 = 2 ∧ nb l 2 / 64 = 2 ∧ 2048 ≤ (nb l 0 % 16) * 4096 + (nb l 1 % 64) * 64 + nb l 2 % 64 ∧ okr ((nb l 0 % 16) * 4096 + (nb l 1 % 64) * 64 + nb l 2 % 64) := by
  have h0 := nb_lt l 0
  unfold dl
  simp only [nb_cont, Bool.and_eq_true, beq_iff_eq, ge_iff_le, decide_eq_true_eq, valid_nat, okr]
  repeat' split
  all_goals first | exact ⟨fun _ => by omega, fun _ => rfl⟩ | exact ⟨fun h => absurd h (by simp), fun h => by omega⟩
theorem dl_four (l : List UInt8) : (dl l).2 = 4 ↔ nb l 0 / 8 = 30 ∧ nb l 1 / 64 = 2 ∧ nb l 2 / 64 = 2 ∧ nb l 3 / 64 = 2 ∧ 65536 ≤ (nb l 0 % 8) * 262144 + (nb l 1 % 64) * 4096 + (nb l 2 % 64) * 64 + nb l 3 % 64 ∧ okr ((nb l 0 % 8) * 262144 + (nb l 1 % 64) * 4096 + (nb l 2 % 64) * 64 + nb l 3 % 64) := by
  have h0 := nb_lt l 0
  unfold dl
  simp only [nb_cont, Bool.and_eq_true, beq_iff_eq, ge_iff_le, decide_eq_true_eq, valid_nat, okr]
  repeat' split
  all_goals first | exact ⟨fun _ => by omega, fun _ => rfl⟩ | exact ⟨fun h => absurd h (by simp), fun h => by omega⟩
def padded (b : List UInt8) (c : UInt8) : List UInt8 := b ++ List.replicate (refN (nb b 0) - b.length) c
/-- the end of a text that begins a form: how many bytes, how many lack -/
def begunK (l : List UInt8) : Nat → Nat × Nat
  | 0 => (0, 0)
  | f + 1 => let k := 3 - f; if l.length < k then (0, 0) else if begOk (l.drop (l.length - k)) then (k, lackOf (l.drop (l.length - k))) else begunK l f
def begunOf (l : List UInt8) : Nat × Nat := begunK l 3
theorem begun_yes {l : List UInt8} {k : Nat} (h1 : 1 ≤ k) (h3 : k ≤ 3) (hk : k ≤ l.length) (h : begOk (l.drop (l.length - k))) : begunK l (4 - k) = (k, lackOf (l.drop (l.length - k))) := by
  rw [show 4 - k = (3 - k) + 1 by omega, begunK, show 3 - (3 - k) = k by omega]
  rw [if_neg (by omega), if_pos h]
theorem begun_next {l : List UInt8} {k : Nat} (h1 : 1 ≤ k) (h3 : k ≤ 3) (hk : k ≤ l.length) (h : ¬ begOk (l.drop (l.length - k))) : begunK l (4 - k) = begunK l (4 - (k + 1)) := by
  rw [show 4 - k = (3 - k) + 1 by omega, begunK, show 3 - (3 - k) = k by omega]
  rw [if_neg (by omega), if_neg h]
  rw [show 4 - (k + 1) = 3 - k by omega]
theorem begun_end {l : List UInt8} {k : Nat} (h1 : 1 ≤ k) (h : k ≤ 3 → l.length < k) : begunK l (4 - k) = (0, 0) := by
  by_cases h3 : k ≤ 3
  · rw [show 4 - k = (3 - k) + 1 by omega, begunK, show 3 - (3 - k) = k by omega]
    rw [if_pos (h h3)]
  · rw [show 4 - k = 0 by omega, begunK]
theorem lack_pos {b : List UInt8} : 0 < lackOf b ↔ begOk b := by
  unfold lackOf
  by_cases h : begOk b
  · rw [if_pos h]; have := h.1; exact ⟨fun _ => h, fun _ => by omega⟩
  · rw [if_neg h]; exact ⟨fun h => by omega, fun h' => absurd h' h⟩
theorem begunK_bound (l : List UInt8) : ∀ f, f ≤ 3 → (begunK l f).1 ≤ 3 ∧ (begunK l f).1 ≤ l.length ∧ (begunK l f).2 ≤ 4
  | 0, _ => ⟨by simp [begunK], by simp [begunK], by simp [begunK]⟩
  | f + 1, h => by
    rw [begunK]
    by_cases h1 : l.length < 3 - f
    · rw [if_pos h1]; simp
    · rw [if_neg h1]
      by_cases h2 : begOk (l.drop (l.length - (3 - f)))
      · rw [if_pos h2]
        refine ⟨by simp only []; omega, by simp only []; omega, ?_⟩
        simp only [lackOf]
        rw [if_pos h2]
        have : ldN (nb (l.drop (l.length - (3 - f))) 0) ≤ 4 := ldN_le _
        omega
      · rw [if_neg h2]; exact begunK_bound l f (by omega)
end Go.Eng

/-
  Plain facts on a text that comes in by parts. No condition.
-/
set_option linter.all false
namespace Go.Eng
open Go
/-- a form's first bytes are such as begin a form -/
theorem form_beg {L : List UInt8} (h : 2 ≤ (dl L).2) : ldN (nb L 0) = (dl L).2 ∧ (loN (nb L 0) ≤ nb L 1 ∧ nb L 1 ≤ hiN (nb L 0)) ∧ (3 ≤ (dl L).2 → 128 ≤ nb L 2 ∧ nb L 2 ≤ 191) := by
  have hc : (dl L).2 = 2 ∨ (dl L).2 = 3 ∨ (dl L).2 = 4 := by
    by_cases hl : 0 < L.length
    · rcases dl_cases L hl with ⟨_, h2, _⟩ | ⟨h2, _⟩
      · have := wd_pos (dl L).1; omega
      · rw [h2] at h; simp at h
    · have : L = [] := List.eq_nil_of_length_eq_zero (by omega)
      subst this
      exact absurd h (by decide)
  have g0 := nb_lt L 0
  have g1 := nb_lt L 1
  have g2 := nb_lt L 2
  rcases hc with hc | hc | hc
  · have h2 := (dl_two L).1 hc
    rw [hc]
    unfold ldN loN hiN
    generalize nb L 0 = x at *
    simp only [show ¬ (x < 194 ∨ 244 < x) by omega, if_false, show x < 224 by omega, if_true, show ¬ x = 224 by omega, show ¬ x = 240 by omega, show ¬ x = 237 by omega, show ¬ x = 244 by omega]
    exact ⟨trivial, ⟨by omega, by omega⟩, fun h => by omega⟩
  · have h3 := (dl_three L).1 hc
    rw [hc]
    unfold okr at h3
    unfold ldN loN hiN
    generalize nb L 0 = x at *
    generalize nb L 1 = y at *
    simp only [show ¬ (x < 194 ∨ 244 < x) by omega, if_false, show ¬ x < 224 by omega, show x < 240 by omega, if_true, show ¬ x = 240 by omega, show ¬ x = 244 by omega]
    by_cases q1 : x = 224
    · subst q1; simp; omega
    · by_cases q2 : x = 237
      · subst q2; simp; omega
      · simp only [q1, q2, if_false]; exact ⟨trivial, ⟨by omega, by omega⟩, fun _ => ⟨by omega, by omega⟩⟩
  · have h4 := (dl_four L).1 hc
    rw [hc]
    unfold okr at h4
    unfold ldN loN hiN
    generalize nb L 0 = x at *
    generalize nb L 1 = y at *
    simp only [show ¬ (x < 194 ∨ 244 < x) by omega, if_false, show ¬ x < 224 by omega, show ¬ x < 240 by omega, show ¬ x = 224 by omega, show ¬ x = 237 by omega]
    by_cases q1 : x = 240
    · subst q1; simp; omega
    · by_cases q2 : x = 244
      · subst q2; simp; omega
      · simp only [q1, q2, if_false]; exact ⟨trivial, ⟨by omega, by omega⟩, fun _ => ⟨by omega, by omega⟩⟩
theorem ldN_lead {c : Nat} (h : 0 < ldN c) : 194 ≤ c := by
  unfold ldN at h; split at h
  · omega
  · omega
theorem lo_hi (c : Nat) : 128 ≤ loN c ∧ hiN c ≤ 191 := by
  unfold loN hiN; constructor
  · split <;> (try split) <;> omega
  · split <;> (try split) <;> omega
/-- two beginnings that end together are one -/
theorem beg_one {l : List UInt8} {j k : Nat} (hj : 1 ≤ j) (hjk : j < k) (hk : k ≤ l.length) (hk3 : k ≤ 3) (h1 : begOk (l.drop (l.length - j))) (h2 : begOk (l.drop (l.length - k))) : False := by
  have e : ∀ i, nb (l.drop (l.length - k)) (k - j + i) = nb (l.drop (l.length - j)) i := fun i => by
    rw [nb_drop, nb_drop]; congr 1; omega
  have hl1 := ldN_lead (c := nb (l.drop (l.length - j)) 0) (by have := h1.1; omega)
  have hlen : (l.drop (l.length - k)).length = k := by simp; omega
  have hlh := lo_hi (nb (l.drop (l.length - k)) 0)
  have e0 := e 0
  rw [Nat.add_zero] at e0
  rcases (show k - j = 1 ∨ k - j = 2 by omega) with hd | hd
  · have := h2.2.1 (by omega)
    rw [hd] at e0; omega
  · have := h2.2.2 (by omega)
    rw [hd] at e0; omega
/-- the one beginning that a text ends with -/
theorem begunK_of {l : List UInt8} {k : Nat} (h1 : 1 ≤ k) (h3 : k ≤ 3) (hk : k ≤ l.length) (h : begOk (l.drop (l.length - k))) : ∀ j, 1 ≤ j → j ≤ k → begunK l (4 - j) = (k, lackOf (l.drop (l.length - k))) := by
  intro j hj hjk
  induction hd : k - j generalizing j with
  | zero =>
    obtain rfl : j = k := by omega
    exact begun_yes h1 h3 hk h
  | succ d ih =>
    rw [begun_next hj (by omega) (by omega) (fun hb => beg_one hj (by omega) hk h3 hb h)]
    exact ih (j + 1) (by omega) (by omega) (by omega)
theorem begun_of {l : List UInt8} {k : Nat} (h1 : 1 ≤ k) (h3 : k ≤ 3) (hk : k ≤ l.length) (h : begOk (l.drop (l.length - k))) : (begunOf l).1 = k := by
  have := begunK_of h1 h3 hk h 1 (Nat.le_refl _) h1
  rw [begunOf, this]
theorem begunK_none {l : List UInt8} (h : ∀ k, 1 ≤ k → k ≤ 3 → k ≤ l.length → ¬ begOk (l.drop (l.length - k))) : ∀ j, 1 ≤ j → j ≤ 4 → begunK l (4 - j) = (0, 0) := by
  intro j hj hj4
  induction hd : 4 - j generalizing j with
  | zero => rw [begunK]
  | succ d ih =>
    by_cases hjl : j ≤ l.length
    · have := begun_next hj (by omega) hjl (h j hj (by omega) hjl)
      rw [show d + 1 = 4 - j by omega, this]
      rw [show 4 - (j + 1) = d by omega]
      exact ih (j + 1) (by omega) (by omega) (by omega)
    · have := begun_end (l := l) hj (fun _ => by omega)
      rwa [show d + 1 = 4 - j by omega]
theorem begun_none {l : List UInt8} (h : ∀ k, 1 ≤ k → k ≤ 3 → k ≤ l.length → ¬ begOk (l.drop (l.length - k))) : (begunOf l).1 = 0 := by
  rw [begunOf, begunK_none h 1 (Nat.le_refl _) (by omega)]
/-- what the end of a text begins, if it begins anything -/
theorem begun_cases (l : List UInt8) : (begunOf l).1 = 0 ∧ (∀ k, 1 ≤ k → k ≤ 3 → k ≤ l.length → ¬ begOk (l.drop (l.length - k))) ∨ (1 ≤ (begunOf l).1 ∧ (begunOf l).1 ≤ 3 ∧ (begunOf l).1 ≤ l.length ∧ begOk (l.drop (l.length - (begunOf l).1))) := by
  by_cases h : ∃ k, 1 ≤ k ∧ k ≤ 3 ∧ k ≤ l.length ∧ begOk (l.drop (l.length - k))
  · obtain ⟨k, h1, h3, hk, hb⟩ := h
    right
    rw [begun_of h1 h3 hk hb]
    exact ⟨h1, h3, hk, hb⟩
  · left
    have h' : ∀ k, 1 ≤ k → k ≤ 3 → k ≤ l.length → ¬ begOk (l.drop (l.length - k)) := fun k h1 h3 hk hb => h ⟨k, h1, h3, hk, hb⟩
    exact ⟨begun_none h', h'⟩
/-- where what is told ends -/
def cutAt (l : List UInt8) : Nat := l.length - (begunOf l).1
theorem cut_le (l : List UInt8) : cutAt l ≤ l.length := by unfold cutAt; omega
/-- a beginning of what begins a form begins one too -/
theorem beg_take {b : List UInt8} {n : Nat} (h : begOk b) (h1 : 1 ≤ n) : begOk (b.take n) := by
  have e : ∀ i, i < n → nb (b.take n) i = nb b i := fun i hi => nb_take hi
  have hl : (b.take n).length = min n b.length := by simp
  refine ⟨?_, fun h2 => ?_, fun h2 => ?_⟩
  · rw [e 0 (by omega)]; have := h.1; omega
  · rw [e 0 (by omega), e 1 (by omega)]; exact h.2.1 (by omega)
  · rw [e 2 (by omega)]; exact h.2.2 (by omega)
/-- where what was told ends, pieces end, whatever follows -/
theorem cut_reach (A s : List UInt8) : Reach (A ++ s) (cutAt A) := by
  rcases begun_cases A with ⟨h0, hno⟩ | ⟨h1, h3, hk, hb⟩
  · have hc : cutAt A = A.length := by unfold cutAt; omega
    rw [hc]
    by_cases hs : A.length = (A ++ s).length
    · have : s = [] := by simpa using hs
      subst this
      exact ⟨pieces A, by rw [List.append_nil, from_nil (by omega), List.append_nil]⟩
    by_cases hw : ∃ i, Within (A ++ s) A.length i
    · exfalso
      obtain ⟨i, hi⟩ := hw
      obtain ⟨_, hil, hi3, _⟩ := within_reach (by simp) hi
      have h1 := hi.1
      have h2 := hi.2.1
      rw [readP_w_eq] at h2
      obtain ⟨f1, f2, f3⟩ := form_beg (L := (A ++ s).drop i) (by omega)
      refine hno (A.length - i) (by omega) (by omega) (by omega) ?_
      rw [show A.length - (A.length - i) = i by omega]
      have e : ∀ q, i + q < A.length → nb (A.drop i) q = nb ((A ++ s).drop i) q := fun q hq => by
        rw [nb_drop, nb_drop]
        simp [nb, gb, List.getD_eq_getElem?_getD, List.getElem?_append_left hq]
      have hl : (A.drop i).length = A.length - i := by simp
      refine ⟨?_, fun h => ?_, fun h => ?_⟩
      · rw [e 0 (by omega), f1]; omega
      · rw [e 0 (by omega), e 1 (by omega)]; exact f2
      · rw [e 2 (by omega)]; exact f3 (by omega)
    · have := (not_congr (within_iff (l := A ++ s) (at_ := A.length) (by simp))).1 hw
      rcases Classical.not_not.1 this with h | h
      · exact absurd h hs
      · exact h
  · have hlt : cutAt A < A.length := by unfold cutAt; omega
    refine reach_lead (by simp; omega) ?_ (cutAt A) 0 (by omega) (by omega) (Reach.zero _)
    right
    have hl := ldN_lead (c := nb (A.drop (A.length - (begunOf A).1)) 0) (by have := hb.1; omega)
    rw [nb_drop, Nat.add_zero] at hl
    have : nb (A ++ s) (cutAt A) = nb A (cutAt A) := by simp [nb, gb, List.getD_eq_getElem?_getD, List.getElem?_append_left hlt]
    show 192 ≤ nb (A ++ s) (cutAt A)
    rw [this]
    unfold cutAt
    omega
end Go.Eng

/-
  Plain facts on what is told of a text that comes in by parts. No condition.
-/
set_option linter.all false
namespace Go.Eng
open Go
/-- a piece, so many bytes further on -/
def Pc.sh (t : Nat) (p : Pc) : Pc := ⟨p.at_ + t, p.w, p.r, p.b⟩
theorem read_drop (l : List UInt8) (t k : Nat) : (readP (l.drop t) k).sh t = readP l (t + k) := by
  unfold readP
  rw [List.drop_drop]
  split
  · simp [Pc.sh]; omega
  · simp [Pc.sh]; omega
theorem from_drop (l : List UInt8) (t : Nat) : ∀ d k, l.length - (t + k) ≤ d → (from_ (l.drop t) k).map (Pc.sh t) = from_ l (t + k)
  | 0, k, h => by rw [from_nil (by simp; omega), from_nil (by omega)]; rfl
  | d + 1, k, h => by
    by_cases hk : t + k < l.length
    · have hk' : k < (l.drop t).length := by simp; omega
      have hw := readP_w hk
      have e := read_drop l t k
      have ew : (readP (l.drop t) k).w = (readP l (t + k)).w := by rw [← e]; rfl
      rw [from_cons hk', from_cons hk, List.map_cons, e, ew, from_drop l t d (k + (readP l (t + k)).w) (by omega)]
      congr 2
      omega
    · rw [from_nil (by simp; omega), from_nil hk]; rfl
/-- the pieces between two boundaries -/
def toldOf (A : List UInt8) (t u : Nat) : List Pc := (pieces ((A.drop t).take (u - t))).map (Pc.sh t)
theorem told_mid {A : List UInt8} {t u : Nat} {mid : List Pc} (hu : u ≤ A.length) (hle : t ≤ u) (h : from_ A t = mid ++ from_ A u) : toldOf A t u = mid := by
  have h1 := from_take hu mid t h hle
  have h2 := from_drop (A.take u) t ((A.take u).length) 0 (by omega)
  rw [toldOf, pieces, List.take_drop, show t + (u - t) = u by omega, h2, Nat.add_zero, h1]
theorem told_filter {A : List UInt8} {t u : Nat} (h1 : Reach A t) (h2 : Reach A u) (hle : t ≤ u) (hu : u ≤ A.length) : (pieces A).filter (fun p => decide (t ≤ p.at_) && decide (p.at_ < u)) = toldOf A t u := by
  obtain ⟨p1, e1, a1, b1⟩ := reach_parts h1
  obtain ⟨p2, e2, a2, b2⟩ := reach_parts h2
  have hlt : ∀ p ∈ pieces A, p.at_ < A.length := fun p hp => (mem_w hp).1
  have ha1 : ∀ q ∈ p1, q.at_ < t := by
    intro q hq
    rcases a1 q hq with h | h
    · exact h
    · have := hlt q (by rw [e1]; exact List.mem_append_left _ hq); omega
  have ha2 : ∀ q ∈ p2, q.at_ < u := by
    intro q hq
    rcases a2 q hq with h | h
    · exact h
    · have := hlt q (by rw [e2]; exact List.mem_append_left _ hq); omega
  obtain ⟨mid, hm⟩ : ∃ mid, from_ A t = mid ++ from_ A u ∧ ∀ q ∈ mid, q.at_ < u := by
    rcases List.append_eq_append_iff.1 (e1.symm.trans e2) with ⟨c, h3, h4⟩ | ⟨c, h3, h4⟩
    · exact ⟨c, h4, fun q hq => ha2 q (by rw [h3]; exact List.mem_append_right _ hq)⟩
    · have hc : c = [] := by
        cases c with
        | nil => rfl
        | cons q c =>
          have g1 := ha1 q (by rw [h3]; simp)
          have g2 := b2 q (by rw [h4]; simp)
          omega
      subst hc
      exact ⟨[], by simpa using h4.symm, fun q hq => by cases hq⟩
  rw [told_mid hu hle hm.1, e1, List.filter_append, hm.1, List.filter_append]
  rw [List.filter_eq_nil_iff.2, List.filter_eq_self.2, List.filter_eq_nil_iff.2]
  · simp
  · intro q hq; have := b2 q hq; simp; omega
  · intro q hq
    have g1 := b1 q (by rw [hm.1]; exact List.mem_append_left _ hq)
    have g2 := hm.2 q hq
    simp; omega
  · intro q hq; have := ha1 q hq; simp; omega
/-- what is held is enough to see what the whole text's end begins -/
theorem begun_held (A s : List UInt8) : (begunOf ((A ++ s).drop (cutAt A))).1 = (begunOf (A ++ s)).1 := by
  have hc := cut_le A
  have hl : ((A ++ s).drop (cutAt A)).length = (A ++ s).length - cutAt A := by simp
  have hal : (A ++ s).length = A.length + s.length := by simp
  have e : ∀ k, k ≤ ((A ++ s).drop (cutAt A)).length → ((A ++ s).drop (cutAt A)).drop (((A ++ s).drop (cutAt A)).length - k) = (A ++ s).drop ((A ++ s).length - k) := fun k hk => by
    rw [List.drop_drop]; congr 1; omega
  rcases begun_cases (A ++ s) with ⟨h0, hno⟩ | ⟨h1, h3, hk, hb⟩
  · rw [h0]
    exact begun_none fun k h1 h3 hk hb => hno k h1 h3 (by omega) (by rw [e k hk] at hb; exact hb)
  · generalize hq : (begunOf (A ++ s)).1 = k at *
    by_cases hks : k ≤ ((A ++ s).drop (cutAt A)).length
    · exact begun_of h1 h3 hks (by rw [e k hks]; exact hb)
    · exfalso
      have hp : (A ++ s).length - k < cutAt A := by omega
      have hb2 := beg_take (n := A.length - ((A ++ s).length - k)) hb (by omega)
      have e2 : ((A ++ s).drop ((A ++ s).length - k)).take (A.length - ((A ++ s).length - k)) = A.drop ((A ++ s).length - k) := by
        rw [List.drop_append_of_le_length (by omega), List.take_append_of_le_length (by simp), List.take_of_length_le (by simp)]
      rw [e2] at hb2
      have := begun_of (l := A) (k := A.length - ((A ++ s).length - k)) (by omega) (by omega) (by omega) (by rw [show A.length - (A.length - ((A ++ s).length - k)) = (A ++ s).length - k by omega]; exact hb2)
      unfold cutAt at hp
      omega
theorem held_le (A : List UInt8) : (A.drop (cutAt A)).length ≤ 3 := by
  have h1 : (begunOf A).1 ≤ 3 := (begunK_bound A 3 (Nat.le_refl _)).1
  simp [cutAt]; omega
theorem cut_mono (A s : List UInt8) : cutAt A ≤ cutAt (A ++ s) := by
  have h1 := begun_held A s
  have h2 : (begunOf ((A ++ s).drop (cutAt A))).1 ≤ ((A ++ s).drop (cutAt A)).length := (begunK_bound _ 3 (Nat.le_refl _)).2.1
  have hc := cut_le A
  have hal : (A ++ s).length = A.length + s.length := by simp
  rw [List.length_drop] at h2
  unfold cutAt at *
  omega
end Go.Eng

/-
  Plain facts on one more part, and on the end, of a text that comes in by parts. No condition.
-/
set_option linter.all false
namespace Go.Eng
open Go
/-- what is told of pieces -/
def told (_A : List UInt8) (t u : Nat) (ps : List Pc) : List Pc := ps.filter fun p => decide (t ≤ p.at_) && decide (p.at_ < u)
theorem cut_nil : cutAt [] = 0 := rfl
theorem cut_self (A : List UInt8) : Reach A (cutAt A) := by
  have := cut_reach A []
  rwa [List.append_nil] at this
structure PutF (A s h : List UInt8) (k : Nat) (ps : List Pc) : Prop where
  hs : h ++ s = (A ++ s).drop (cutAt A)
  k_ : k = ((A ++ s).drop (cutAt (A ++ s))).length
  cut : cutAt A + ((h ++ s).length - k) = cutAt (A ++ s)
  rest : (h ++ s).drop ((h ++ s).length - k) = (A ++ s).drop (cutAt (A ++ s))
  tells : (pieces ((h ++ s).take ((h ++ s).length - k))).map (Pc.sh (cutAt A)) = ps
  told_ : told (A ++ s) (cutAt A) (cutAt (A ++ s)) (pieces (A ++ s)) = ps
theorem put_facts (A s : List UInt8) : PutF A s (A.drop (cutAt A)) (begunOf (A.drop (cutAt A) ++ s)).1 (toldOf (A ++ s) (cutAt A) (cutAt (A ++ s))) := by
  have hc := cut_le A
  have hs : A.drop (cutAt A) ++ s = (A ++ s).drop (cutAt A) := (List.drop_append_of_le_length hc).symm
  have hal : (A ++ s).length = A.length + s.length := by simp
  have hm := cut_mono A s
  have hcu := cut_le (A ++ s)
  have hb := begun_held A s
  have hk : (begunOf (A ++ s)).1 ≤ (A ++ s).length := (begunK_bound (A ++ s) 3 (Nat.le_refl _)).2.1
  have hce : cutAt (A ++ s) = (A ++ s).length - (begunOf (A ++ s)).1 := rfl
  have hlen : ((A ++ s).drop (cutAt A)).length = (A ++ s).length - cutAt A := by simp
  refine ⟨hs, ?_, ?_, ?_, ?_, ?_⟩
  · rw [hs, hb, List.length_drop]; omega
  · rw [hs, hb, hlen]; omega
  · rw [hs, hb, List.drop_drop, hlen]; congr 1; omega
  · rw [hs, hb, hlen, toldOf]; congr 3; omega
  · exact told_filter (cut_reach A s) (cut_self (A ++ s)) hm hcu
end Go.Eng

/-
  The walks of runes.At, last, the iterator Back, begun, Wants, for a seat that does not reach the rest of runes. No condition.
-/
namespace Go.Proofs.Ytljfncpecpkhhaa
open Go Go.Eng
set_option maxRecDepth 100000
set_option maxHeartbeats 4000000
set_option linter.all false
attribute [local irreducible] WL WC WQ QFun QLoop Does Q1 QRound QAssign Go.Addr.add
theorem read_z (l : List UInt8) {z : Int} {k : Nat} (hz : z = (k : Int)) (hl : l.length ≤ 9223372036854775804) (hk : k < l.length) (w0 : World) (m : Mem) (H : SHeap) :
    Does Try.prog 73 #[str l, .int .i64 z] w0 m H (Gives (readP l k).v m H) := by subst hz; exact read_any l k hl hk w0 m H
theorem sq_OR1_2 {G : Prop} (h : G := by (repeat (first | (refine sp ?_; (repeat intro zzc)) | (refine iF 73 rfl ?_; refine w_callG Try.func73 ?_ (hs := read_z _ (by (first | with_reducible exact natz _ | with_reducible exact natz0 | with_reducible exact natz1 | with_reducible exact natz2 | with_reducible exact natz3 | with_reducible exact natz4 | with_reducible exact natz8 | (apply natz_add; (· first | with_reducible exact natz _ | with_reducible exact natz0 | with_reducible exact natz1 | with_reducible exact natz2 | with_reducible exact natz3 | with_reducible exact natz4 | with_reducible exact natz8); (· first | with_reducible exact natz _ | with_reducible exact natz0 | with_reducible exact natz1 | with_reducible exact natz2 | with_reducible exact natz3 | with_reducible exact natz4 | with_reducible exact natz8)) | (apply natz_sub; (· first | with_reducible exact natz _ | with_reducible exact natz0 | with_reducible exact natz1 | with_reducible exact natz2 | with_reducible exact natz3 | with_reducible exact natz4 | with_reducible exact natz8); (· first | with_reducible exact natz _ | with_reducible exact natz0 | with_reducible exact natz1 | with_reducible exact natz2 | with_reducible exact natz3 | with_reducible exact natz4 | with_reducible exact natz8); (· omega)) | exact (Int.toNat_of_nonneg (by omega)).symm)) (by omega) (by omega) _ _ _)) | (refine iF 73 rfl ?_; refine w_callG Try.func73 ?_ (hs := read_any _ _ (by omega) (by omega) _ _ _)))); exact WQ.q1 rfl) : G := h
theorem st_OR1_2 {G G' : Prop} (next : G') (h : Bx G' → G := by intro zzn; (first | ((refine st ?_; (repeat intro zzc)); (try ((first | (refine iF 73 rfl ?_; refine w_callG Try.func73 ?_ (hs := read_z _ (by (first | with_reducible exact natz _ | with_reducible exact natz0 | with_reducible exact natz1 | with_reducible exact natz2 | with_reducible exact natz3 | with_reducible exact natz4 | with_reducible exact natz8 | (apply natz_add; (· first | with_reducible exact natz _ | with_reducible exact natz0 | with_reducible exact natz1 | with_reducible exact natz2 | with_reducible exact natz3 | with_reducible exact natz4 | with_reducible exact natz8); (· first | with_reducible exact natz _ | with_reducible exact natz0 | with_reducible exact natz1 | with_reducible exact natz2 | with_reducible exact natz3 | with_reducible exact natz4 | with_reducible exact natz8)) | (apply natz_sub; (· first | with_reducible exact natz _ | with_reducible exact natz0 | with_reducible exact natz1 | with_reducible exact natz2 | with_reducible exact natz3 | with_reducible exact natz4 | with_reducible exact natz8); (· first | with_reducible exact natz _ | with_reducible exact natz0 | with_reducible exact natz1 | with_reducible exact natz2 | with_reducible exact natz3 | with_reducible exact natz4 | with_reducible exact natz8); (· omega)) | exact (Int.toNat_of_nonneg (by omega)).symm)) (by omega) (by omega) _ _ _)) | (refine iF 73 rfl ?_; refine w_callG Try.func73 ?_ (hs := read_any _ _ (by omega) (by omega) _ _ _)) | ((refine iDraw ?_; (first | refine WC.drawAll rfl (by decide +kernel) ?_ | refine WC.draw 1 rfl (by decide +kernel) ?_ | refine WC.draw 2 rfl (by decide +kernel) ?_ | refine WC.draw 3 rfl (by decide +kernel) ?_ | refine WC.draw 4 rfl (by decide +kernel) ?_ | refine WC.draw 5 rfl (by decide +kernel) ?_ | refine WC.draw 6 rfl (by decide +kernel) ?_ | refine WC.draw 7 rfl (by decide +kernel) ?_ | refine WC.draw 8 rfl (by decide +kernel) ?_ | refine WC.draw 9 rfl (by decide +kernel) ?_ | refine WC.draw 10 rfl (by decide +kernel) ?_ | refine WC.draw 11 rfl (by decide +kernel) ?_ | refine WC.draw 12 rfl (by decide +kernel) ?_ | refine WC.draw 13 rfl (by decide +kernel) ?_ | refine WC.draw 14 rfl (by decide +kernel) ?_ | refine WC.draw 15 rfl (by decide +kernel) ?_ | refine WC.draw 16 rfl (by decide +kernel) ?_ | refine WC.draw 17 rfl (by decide +kernel) ?_ | refine WC.draw 18 rfl (by decide +kernel) ?_ | refine WC.draw 19 rfl (by decide +kernel) ?_ | refine WC.draw 20 rfl (by decide +kernel) ?_ | refine WC.draw 21 rfl (by decide +kernel) ?_ | refine WC.draw 22 rfl (by decide +kernel) ?_ | refine WC.draw 23 rfl (by decide +kernel) ?_ | refine WC.draw 24 rfl (by decide +kernel) ?_)); (repeat (refine WD.cons rfl (fun c h => by cases h) sq_OR1_2 ?_)); refine WD.nil ?_)); (try (refine st ?_; (repeat intro zzc)))))) | ((first | (refine iF 73 rfl ?_; refine w_callG Try.func73 ?_ (hs := read_z _ (by (first | with_reducible exact natz _ | with_reducible exact natz0 | with_reducible exact natz1 | with_reducible exact natz2 | with_reducible exact natz3 | with_reducible exact natz4 | with_reducible exact natz8 | (apply natz_add; (· first | with_reducible exact natz _ | with_reducible exact natz0 | with_reducible exact natz1 | with_reducible exact natz2 | with_reducible exact natz3 | with_reducible exact natz4 | with_reducible exact natz8); (· first | with_reducible exact natz _ | with_reducible exact natz0 | with_reducible exact natz1 | with_reducible exact natz2 | with_reducible exact natz3 | with_reducible exact natz4 | with_reducible exact natz8)) | (apply natz_sub; (· first | with_reducible exact natz _ | with_reducible exact natz0 | with_reducible exact natz1 | with_reducible exact natz2 | with_reducible exact natz3 | with_reducible exact natz4 | with_reducible exact natz8); (· first | with_reducible exact natz _ | with_reducible exact natz0 | with_reducible exact natz1 | with_reducible exact natz2 | with_reducible exact natz3 | with_reducible exact natz4 | with_reducible exact natz8); (· omega)) | exact (Int.toNat_of_nonneg (by omega)).symm)) (by omega) (by omega) _ _ _)) | (refine iF 73 rfl ?_; refine w_callG Try.func73 ?_ (hs := read_any _ _ (by omega) (by omega) _ _ _)) | ((refine iDraw ?_; (first | refine WC.drawAll rfl (by decide +kernel) ?_ | refine WC.draw 1 rfl (by decide +kernel) ?_ | refine WC.draw 2 rfl (by decide +kernel) ?_ | refine WC.draw 3 rfl (by decide +kernel) ?_ | refine WC.draw 4 rfl (by decide +kernel) ?_ | refine WC.draw 5 rfl (by decide +kernel) ?_ | refine WC.draw 6 rfl (by decide +kernel) ?_ | refine WC.draw 7 rfl (by decide +kernel) ?_ | refine WC.draw 8 rfl (by decide +kernel) ?_ | refine WC.draw 9 rfl (by decide +kernel) ?_ | refine WC.draw 10 rfl (by decide +kernel) ?_ | refine WC.draw 11 rfl (by decide +kernel) ?_ | refine WC.draw 12 rfl (by decide +kernel) ?_ | refine WC.draw 13 rfl (by decide +kernel) ?_ | refine WC.draw 14 rfl (by decide +kernel) ?_ | refine WC.draw 15 rfl (by decide +kernel) ?_ | refine WC.draw 16 rfl (by decide +kernel) ?_ | refine WC.draw 17 rfl (by decide +kernel) ?_ | refine WC.draw 18 rfl (by decide +kernel) ?_ | refine WC.draw 19 rfl (by decide +kernel) ?_ | refine WC.draw 20 rfl (by decide +kernel) ?_ | refine WC.draw 21 rfl (by decide +kernel) ?_ | refine WC.draw 22 rfl (by decide +kernel) ?_ | refine WC.draw 23 rfl (by decide +kernel) ?_ | refine WC.draw 24 rfl (by decide +kernel) ?_)); (repeat (refine WD.cons rfl (fun c h => by cases h) sq_OR1_2 ?_)); refine WD.nil ?_)); (try (refine st ?_; (repeat intro zzc))))); (repeat ((first | (refine iF 73 rfl ?_; refine w_callG Try.func73 ?_ (hs := read_z _ (by (first | with_reducible exact natz _ | with_reducible exact natz0 | with_reducible exact natz1 | with_reducible exact natz2 | with_reducible exact natz3 | with_reducible exact natz4 | with_reducible exact natz8 | (apply natz_add; (· first | with_reducible exact natz _ | with_reducible exact natz0 | with_reducible exact natz1 | with_reducible exact natz2 | with_reducible exact natz3 | with_reducible exact natz4 | with_reducible exact natz8); (· first | with_reducible exact natz _ | with_reducible exact natz0 | with_reducible exact natz1 | with_reducible exact natz2 | with_reducible exact natz3 | with_reducible exact natz4 | with_reducible exact natz8)) | (apply natz_sub; (· first | with_reducible exact natz _ | with_reducible exact natz0 | with_reducible exact natz1 | with_reducible exact natz2 | with_reducible exact natz3 | with_reducible exact natz4 | with_reducible exact natz8); (· first | with_reducible exact natz _ | with_reducible exact natz0 | with_reducible exact natz1 | with_reducible exact natz2 | with_reducible exact natz3 | with_reducible exact natz4 | with_reducible exact natz8); (· omega)) | exact (Int.toNat_of_nonneg (by omega)).symm)) (by omega) (by omega) _ _ _)) | (refine iF 73 rfl ?_; refine w_callG Try.func73 ?_ (hs := read_any _ _ (by omega) (by omega) _ _ _)) | ((refine iDraw ?_; (first | refine WC.drawAll rfl (by decide +kernel) ?_ | refine WC.draw 1 rfl (by decide +kernel) ?_ | refine WC.draw 2 rfl (by decide +kernel) ?_ | refine WC.draw 3 rfl (by decide +kernel) ?_ | refine WC.draw 4 rfl (by decide +kernel) ?_ | refine WC.draw 5 rfl (by decide +kernel) ?_ | refine WC.draw 6 rfl (by decide +kernel) ?_ | refine WC.draw 7 rfl (by decide +kernel) ?_ | refine WC.draw 8 rfl (by decide +kernel) ?_ | refine WC.draw 9 rfl (by decide +kernel) ?_ | refine WC.draw 10 rfl (by decide +kernel) ?_ | refine WC.draw 11 rfl (by decide +kernel) ?_ | refine WC.draw 12 rfl (by decide +kernel) ?_ | refine WC.draw 13 rfl (by decide +kernel) ?_ | refine WC.draw 14 rfl (by decide +kernel) ?_ | refine WC.draw 15 rfl (by decide +kernel) ?_ | refine WC.draw 16 rfl (by decide +kernel) ?_ | refine WC.draw 17 rfl (by decide +kernel) ?_ | refine WC.draw 18 rfl (by decide +kernel) ?_ | refine WC.draw 19 rfl (by decide +kernel) ?_ | refine WC.draw 20 rfl (by decide +kernel) ?_ | refine WC.draw 21 rfl (by decide +kernel) ?_ | refine WC.draw 22 rfl (by decide +kernel) ?_ | refine WC.draw 23 rfl (by decide +kernel) ?_ | refine WC.draw 24 rfl (by decide +kernel) ?_)); (repeat (refine WD.cons rfl (fun c h => by cases h) sq_OR1_2 ?_)); refine WD.nil ?_)); (try (refine st ?_; (repeat intro zzc))))); (repeat revert zzc); exact zzn.out) : G := h ⟨next⟩
def zeroP : Value := .agg #[.int .i64 0, .int .i64 0, .int .i32 0, .bool false]
theorem at_in (l : List UInt8) (k : Nat) (hl : l.length ≤ 9223372036854775804) (hk : k < l.length) (w0 : World) (m : Mem) (H : SHeap) :
    Does Try.prog 44 #[str l, .int .i64 (k : Int)] w0 m H (Gives (.tuple #[(readP l k).v, .int .i64 0]) m H) := by
  refine Does.of_body (args := [str l, .int .i64 (k : Int)]) Try.func44 rfl Try.ntmps44 rfl ?_
  (try (refine st_OR1_2 ?_; intros))
  (refine q_fin0 ?_)
  exact Gives.mk rfl
theorem sq_OR1_3 {G : Prop} (h : G := by (repeat (first | (refine sp ?_; (repeat intro zzc)) | (refine iF 73 rfl ?_; refine w_callG Try.func73 ?_ (hs := read_z _ (by (first | with_reducible exact natz _ | with_reducible exact natz0 | with_reducible exact natz1 | with_reducible exact natz2 | with_reducible exact natz3 | with_reducible exact natz4 | with_reducible exact natz8 | (apply natz_add; (· first | with_reducible exact natz _ | with_reducible exact natz0 | with_reducible exact natz1 | with_reducible exact natz2 | with_reducible exact natz3 | with_reducible exact natz4 | with_reducible exact natz8); (· first | with_reducible exact natz _ | with_reducible exact natz0 | with_reducible exact natz1 | with_reducible exact natz2 | with_reducible exact natz3 | with_reducible exact natz4 | with_reducible exact natz8)) | (apply natz_sub; (· first | with_reducible exact natz _ | with_reducible exact natz0 | with_reducible exact natz1 | with_reducible exact natz2 | with_reducible exact natz3 | with_reducible exact natz4 | with_reducible exact natz8); (· first | with_reducible exact natz _ | with_reducible exact natz0 | with_reducible exact natz1 | with_reducible exact natz2 | with_reducible exact natz3 | with_reducible exact natz4 | with_reducible exact natz8); (· omega)) | exact (Int.toNat_of_nonneg (by omega)).symm)) (by omega) (by omega) _ _ _)))); exact WQ.q1 rfl) : G := h
theorem st_OR1_3 {G G' : Prop} (next : G') (h : Bx G' → G := by intro zzn; (first | ((refine st ?_; (repeat intro zzc)); (try ((first | (refine iF 73 rfl ?_; refine w_callG Try.func73 ?_ (hs := read_z _ (by (first | with_reducible exact natz _ | with_reducible exact natz0 | with_reducible exact natz1 | with_reducible exact natz2 | with_reducible exact natz3 | with_reducible exact natz4 | with_reducible exact natz8 | (apply natz_add; (· first | with_reducible exact natz _ | with_reducible exact natz0 | with_reducible exact natz1 | with_reducible exact natz2 | with_reducible exact natz3 | with_reducible exact natz4 | with_reducible exact natz8); (· first | with_reducible exact natz _ | with_reducible exact natz0 | with_reducible exact natz1 | with_reducible exact natz2 | with_reducible exact natz3 | with_reducible exact natz4 | with_reducible exact natz8)) | (apply natz_sub; (· first | with_reducible exact natz _ | with_reducible exact natz0 | with_reducible exact natz1 | with_reducible exact natz2 | with_reducible exact natz3 | with_reducible exact natz4 | with_reducible exact natz8); (· first | with_reducible exact natz _ | with_reducible exact natz0 | with_reducible exact natz1 | with_reducible exact natz2 | with_reducible exact natz3 | with_reducible exact natz4 | with_reducible exact natz8); (· omega)) | exact (Int.toNat_of_nonneg (by omega)).symm)) (by omega) (by omega) _ _ _)) | ((refine iDraw ?_; (first | refine WC.drawAll rfl (by decide +kernel) ?_ | refine WC.draw 1 rfl (by decide +kernel) ?_ | refine WC.draw 2 rfl (by decide +kernel) ?_ | refine WC.draw 3 rfl (by decide +kernel) ?_ | refine WC.draw 4 rfl (by decide +kernel) ?_ | refine WC.draw 5 rfl (by decide +kernel) ?_ | refine WC.draw 6 rfl (by decide +kernel) ?_ | refine WC.draw 7 rfl (by decide +kernel) ?_ | refine WC.draw 8 rfl (by decide +kernel) ?_ | refine WC.draw 9 rfl (by decide +kernel) ?_ | refine WC.draw 10 rfl (by decide +kernel) ?_ | refine WC.draw 11 rfl (by decide +kernel) ?_ | refine WC.draw 12 rfl (by decide +kernel) ?_ | refine WC.draw 13 rfl (by decide +kernel) ?_ | refine WC.draw 14 rfl (by decide +kernel) ?_ | refine WC.draw 15 rfl (by decide +kernel) ?_ | refine WC.draw 16 rfl (by decide +kernel) ?_ | refine WC.draw 17 rfl (by decide +kernel) ?_ | refine WC.draw 18 rfl (by decide +kernel) ?_ | refine WC.draw 19 rfl (by decide +kernel) ?_ | refine WC.draw 20 rfl (by decide +kernel) ?_ | refine WC.draw 21 rfl (by decide +kernel) ?_ | refine WC.draw 22 rfl (by decide +kernel) ?_ | refine WC.draw 23 rfl (by decide +kernel) ?_ | refine WC.draw 24 rfl (by decide +kernel) ?_)); (repeat (refine WD.cons rfl (fun c h => by cases h) sq_OR1_3 ?_)); refine WD.nil ?_)); (try (refine st ?_; (repeat intro zzc)))))) | ((first | (refine iF 73 rfl ?_; refine w_callG Try.func73 ?_ (hs := read_z _ (by (first | with_reducible exact natz _ | with_reducible exact natz0 | with_reducible exact natz1 | with_reducible exact natz2 | with_reducible exact natz3 | with_reducible exact natz4 | with_reducible exact natz8 | (apply natz_add; (· first | with_reducible exact natz _ | with_reducible exact natz0 | with_reducible exact natz1 | with_reducible exact natz2 | with_reducible exact natz3 | with_reducible exact natz4 | with_reducible exact natz8); (· first | with_reducible exact natz _ | with_reducible exact natz0 | with_reducible exact natz1 | with_reducible exact natz2 | with_reducible exact natz3 | with_reducible exact natz4 | with_reducible exact natz8)) | (apply natz_sub; (· first | with_reducible exact natz _ | with_reducible exact natz0 | with_reducible exact natz1 | with_reducible exact natz2 | with_reducible exact natz3 | with_reducible exact natz4 | with_reducible exact natz8); (· first | with_reducible exact natz _ | with_reducible exact natz0 | with_reducible exact natz1 | with_reducible exact natz2 | with_reducible exact natz3 | with_reducible exact natz4 | with_reducible exact natz8); (· omega)) | exact (Int.toNat_of_nonneg (by omega)).symm)) (by omega) (by omega) _ _ _)) | ((refine iDraw ?_; (first | refine WC.drawAll rfl (by decide +kernel) ?_ | refine WC.draw 1 rfl (by decide +kernel) ?_ | refine WC.draw 2 rfl (by decide +kernel) ?_ | refine WC.draw 3 rfl (by decide +kernel) ?_ | refine WC.draw 4 rfl (by decide +kernel) ?_ | refine WC.draw 5 rfl (by decide +kernel) ?_ | refine WC.draw 6 rfl (by decide +kernel) ?_ | refine WC.draw 7 rfl (by decide +kernel) ?_ | refine WC.draw 8 rfl (by decide +kernel) ?_ | refine WC.draw 9 rfl (by decide +kernel) ?_ | refine WC.draw 10 rfl (by decide +kernel) ?_ | refine WC.draw 11 rfl (by decide +kernel) ?_ | refine WC.draw 12 rfl (by decide +kernel) ?_ | refine WC.draw 13 rfl (by decide +kernel) ?_ | refine WC.draw 14 rfl (by decide +kernel) ?_ | refine WC.draw 15 rfl (by decide +kernel) ?_ | refine WC.draw 16 rfl (by decide +kernel) ?_ | refine WC.draw 17 rfl (by decide +kernel) ?_ | refine WC.draw 18 rfl (by decide +kernel) ?_ | refine WC.draw 19 rfl (by decide +kernel) ?_ | refine WC.draw 20 rfl (by decide +kernel) ?_ | refine WC.draw 21 rfl (by decide +kernel) ?_ | refine WC.draw 22 rfl (by decide +kernel) ?_ | refine WC.draw 23 rfl (by decide +kernel) ?_ | refine WC.draw 24 rfl (by decide +kernel) ?_)); (repeat (refine WD.cons rfl (fun c h => by cases h) sq_OR1_3 ?_)); refine WD.nil ?_)); (try (refine st ?_; (repeat intro zzc))))); (repeat ((first | (refine iF 73 rfl ?_; refine w_callG Try.func73 ?_ (hs := read_z _ (by (first | with_reducible exact natz _ | with_reducible exact natz0 | with_reducible exact natz1 | with_reducible exact natz2 | with_reducible exact natz3 | with_reducible exact natz4 | with_reducible exact natz8 | (apply natz_add; (· first | with_reducible exact natz _ | with_reducible exact natz0 | with_reducible exact natz1 | with_reducible exact natz2 | with_reducible exact natz3 | with_reducible exact natz4 | with_reducible exact natz8); (· first | with_reducible exact natz _ | with_reducible exact natz0 | with_reducible exact natz1 | with_reducible exact natz2 | with_reducible exact natz3 | with_reducible exact natz4 | with_reducible exact natz8)) | (apply natz_sub; (· first | with_reducible exact natz _ | with_reducible exact natz0 | with_reducible exact natz1 | with_reducible exact natz2 | with_reducible exact natz3 | with_reducible exact natz4 | with_reducible exact natz8); (· first | with_reducible exact natz _ | with_reducible exact natz0 | with_reducible exact natz1 | with_reducible exact natz2 | with_reducible exact natz3 | with_reducible exact natz4 | with_reducible exact natz8); (· omega)) | exact (Int.toNat_of_nonneg (by omega)).symm)) (by omega) (by omega) _ _ _)) | ((refine iDraw ?_; (first | refine WC.drawAll rfl (by decide +kernel) ?_ | refine WC.draw 1 rfl (by decide +kernel) ?_ | refine WC.draw 2 rfl (by decide +kernel) ?_ | refine WC.draw 3 rfl (by decide +kernel) ?_ | refine WC.draw 4 rfl (by decide +kernel) ?_ | refine WC.draw 5 rfl (by decide +kernel) ?_ | refine WC.draw 6 rfl (by decide +kernel) ?_ | refine WC.draw 7 rfl (by decide +kernel) ?_ | refine WC.draw 8 rfl (by decide +kernel) ?_ | refine WC.draw 9 rfl (by decide +kernel) ?_ | refine WC.draw 10 rfl (by decide +kernel) ?_ | refine WC.draw 11 rfl (by decide +kernel) ?_ | refine WC.draw 12 rfl (by decide +kernel) ?_ | refine WC.draw 13 rfl (by decide +kernel) ?_ | refine WC.draw 14 rfl (by decide +kernel) ?_ | refine WC.draw 15 rfl (by decide +kernel) ?_ | refine WC.draw 16 rfl (by decide +kernel) ?_ | refine WC.draw 17 rfl (by decide +kernel) ?_ | refine WC.draw 18 rfl (by decide +kernel) ?_ | refine WC.draw 19 rfl (by decide +kernel) ?_ | refine WC.draw 20 rfl (by decide +kernel) ?_ | refine WC.draw 21 rfl (by decide +kernel) ?_ | refine WC.draw 22 rfl (by decide +kernel) ?_ | refine WC.draw 23 rfl (by decide +kernel) ?_ | refine WC.draw 24 rfl (by decide +kernel) ?_)); (repeat (refine WD.cons rfl (fun c h => by cases h) sq_OR1_3 ?_)); refine WD.nil ?_)); (try (refine st ?_; (repeat intro zzc))))); (repeat revert zzc); exact zzn.out) : G := h ⟨next⟩
theorem last_any (l : List UInt8) (hl : l.length ≤ 9223372036854775804) (h0 : 0 < l.length) (w0 : World) (m : Mem) (H : SHeap) :
    Does Try.prog 77 #[str l] w0 m H (Gives (lastP l).v m H) := by
  refine Does.of_body (args := [str l]) Try.func77 rfl Try.ntmps77 rfl ?_
  (refine st_OR1_3 ?_; intros; rename_i bk)
  refine WC.loopW [(4, .int .i64 2), (3, .int .i64 (l.length : Int)), (0, str l), (2, .pointer (some ⟨bk, 0, none⟩))] ?_ (fun j r ds m' H' => ∃ w : Nat, j = 5 - w ∧ 2 ≤ w ∧ w ≤ 5 ∧ r = [(4, .int .i64 (w : Int)), (3, .int .i64 (l.length : Int)), (0, str l), (2, .pointer (some ⟨bk, 0, none⟩))] ∧ ds = [] ∧ m' = m ∧ H' = .blk bk (.cells [.int .i64 0, .int .i64 0, .int .i32 0, .bool false].toArray 40 (0, 0)) :: H ∧
      ∀ v, 2 ≤ v → v < w → v ≤ l.length → ¬ ((readP l (l.length - v)).b = false ∧ (readP l (l.length - v)).w = v)) 3 ⟨2, rfl, by omega, by omega, rfl, rfl, rfl, rfl, fun v h1 h2 => by omega⟩ ?_
  · (repeat (first | exact Env.Sub.nil | refine Env.Sub.cons rfl ?_))
  rintro j r ds m' H' ⟨w, rfl, h1, h2, rfl, rfl, rfl, rfl, hno⟩
  (try (refine st_OR1_3 ?_; intros))
  (first | refine c_ways (fun h3 => ?_) (fun h3 => ?_) | refine c_nways (fun h3 => ?_) (fun h3 => ?_) | refine w_gways (fun h3 => ?_) (fun h3 => ?_) | refine w_gnways (fun h3 => ?_) (fun h3 => ?_))
  · (try (refine st_OR1_3 ?_; intros))
    (first | refine c_ways (fun h4 => ?_) (fun h4 => ?_) | refine c_nways (fun h4 => ?_) (fun h4 => ?_) | refine w_gways (fun h4 => ?_) (fun h4 => ?_) | refine w_gnways (fun h4 => ?_) (fun h4 => ?_))
    · cases hb : (readP l (l.length - w)).b with
      | true =>
        (try (refine st_OR1_3 ?_; intros))
        refine WL.rename 25 (u := .bool false) rfl (by rw [hb]; rfl) ?_
        (try (refine st_OR1_3 ?_; intros))
        exact WQ.next (5 - (w + 1)) ⟨w + 1, rfl, by omega, by omega, rfl, rfl, rfl, rfl, fun v g1 g2 g3 => by
          rcases Nat.lt_or_ge v w with g | g
          · exact hno v g1 g g3
          · obtain rfl : v = w := by omega
            exact fun h => by rw [hb] at h; exact absurd h.1 (by simp)⟩ (by omega) zsb (fun w h => h.drop)
      | false =>
        (try (refine st_OR1_3 ?_; intros))
        refine WL.rename 25 (u := .bool true) rfl (by rw [hb]; rfl) ?_
        (try (refine st_OR1_3 ?_; intros))
        (first | refine c_ways (fun h5 => ?_) (fun h5 => ?_) | refine c_nways (fun h5 => ?_) (fun h5 => ?_) | refine w_gways (fun h5 => ?_) (fun h5 => ?_) | refine w_gnways (fun h5 => ?_) (fun h5 => ?_))
        · (try (refine st_OR1_3 ?_; intros))
          (refine q_fin0 ?_)
          rw [lastP_whole (w := w) (by omega) (by omega) hb (by omega)]
          exact Gives.mk rfl
        · (try (refine st_OR1_3 ?_; intros))
          exact WQ.next (5 - (w + 1)) ⟨w + 1, rfl, by omega, by omega, rfl, rfl, rfl, rfl, fun v g1 g2 g3 => by
          rcases Nat.lt_or_ge v w with g | g
          · exact hno v g1 g g3
          · obtain rfl : v = w := by omega
            exact fun h => h5 (by rw [h.2])⟩ (by omega) zsb (fun w h => h.drop)
    · (try (refine st_OR1_3 ?_; intros))
      (refine q_fin0 ?_)
      rw [← lastP_one h0 (fun v g1 g2 g3 => hno v g1 (by omega) g3)]
      exact Gives.mk rfl
  · (try (refine st_OR1_3 ?_; intros))
    (refine q_fin0 ?_)
    rw [← lastP_one h0 (fun v g1 g2 g3 => hno v g1 (by omega) g3)]
    exact Gives.mk rfl
theorem last_is {l : List UInt8} {p : Pc} (h : lastP l = p) (hl : l.length ≤ 9223372036854775804) (h0 : 0 < l.length) (w0 : World) (m : Mem) (H : SHeap) :
    Does Try.prog 77 #[str l] w0 m H (Gives p.v m H) := by subst h; exact last_any l hl h0 w0 m H
theorem sq_OR1_4 {G : Prop} (h : G := by (repeat (first | (refine sp ?_; (repeat intro zzc)))); exact WQ.q1 rfl) : G := h
theorem st_OR1_4 {G G' : Prop} (next : G') (h : Bx G' → G := by intro zzn; (first | ((refine st ?_; (repeat intro zzc)); (try ((first | ((refine iDraw ?_; (first | refine WC.drawAll rfl (by decide +kernel) ?_ | refine WC.draw 1 rfl (by decide +kernel) ?_ | refine WC.draw 2 rfl (by decide +kernel) ?_ | refine WC.draw 3 rfl (by decide +kernel) ?_ | refine WC.draw 4 rfl (by decide +kernel) ?_ | refine WC.draw 5 rfl (by decide +kernel) ?_ | refine WC.draw 6 rfl (by decide +kernel) ?_ | refine WC.draw 7 rfl (by decide +kernel) ?_ | refine WC.draw 8 rfl (by decide +kernel) ?_ | refine WC.draw 9 rfl (by decide +kernel) ?_ | refine WC.draw 10 rfl (by decide +kernel) ?_ | refine WC.draw 11 rfl (by decide +kernel) ?_ | refine WC.draw 12 rfl (by decide +kernel) ?_ | refine WC.draw 13 rfl (by decide +kernel) ?_ | refine WC.draw 14 rfl (by decide +kernel) ?_ | refine WC.draw 15 rfl (by decide +kernel) ?_ | refine WC.draw 16 rfl (by decide +kernel) ?_ | refine WC.draw 17 rfl (by decide +kernel) ?_ | refine WC.draw 18 rfl (by decide +kernel) ?_ | refine WC.draw 19 rfl (by decide +kernel) ?_ | refine WC.draw 20 rfl (by decide +kernel) ?_ | refine WC.draw 21 rfl (by decide +kernel) ?_ | refine WC.draw 22 rfl (by decide +kernel) ?_ | refine WC.draw 23 rfl (by decide +kernel) ?_ | refine WC.draw 24 rfl (by decide +kernel) ?_)); (repeat (refine WD.cons rfl (fun c h => by cases h) sq_OR1_4 ?_)); refine WD.nil ?_)); (try (refine st ?_; (repeat intro zzc)))))) | ((first | ((refine iDraw ?_; (first | refine WC.drawAll rfl (by decide +kernel) ?_ | refine WC.draw 1 rfl (by decide +kernel) ?_ | refine WC.draw 2 rfl (by decide +kernel) ?_ | refine WC.draw 3 rfl (by decide +kernel) ?_ | refine WC.draw 4 rfl (by decide +kernel) ?_ | refine WC.draw 5 rfl (by decide +kernel) ?_ | refine WC.draw 6 rfl (by decide +kernel) ?_ | refine WC.draw 7 rfl (by decide +kernel) ?_ | refine WC.draw 8 rfl (by decide +kernel) ?_ | refine WC.draw 9 rfl (by decide +kernel) ?_ | refine WC.draw 10 rfl (by decide +kernel) ?_ | refine WC.draw 11 rfl (by decide +kernel) ?_ | refine WC.draw 12 rfl (by decide +kernel) ?_ | refine WC.draw 13 rfl (by decide +kernel) ?_ | refine WC.draw 14 rfl (by decide +kernel) ?_ | refine WC.draw 15 rfl (by decide +kernel) ?_ | refine WC.draw 16 rfl (by decide +kernel) ?_ | refine WC.draw 17 rfl (by decide +kernel) ?_ | refine WC.draw 18 rfl (by decide +kernel) ?_ | refine WC.draw 19 rfl (by decide +kernel) ?_ | refine WC.draw 20 rfl (by decide +kernel) ?_ | refine WC.draw 21 rfl (by decide +kernel) ?_ | refine WC.draw 22 rfl (by decide +kernel) ?_ | refine WC.draw 23 rfl (by decide +kernel) ?_ | refine WC.draw 24 rfl (by decide +kernel) ?_)); (repeat (refine WD.cons rfl (fun c h => by cases h) sq_OR1_4 ?_)); refine WD.nil ?_)); (try (refine st ?_; (repeat intro zzc))))); (repeat ((first | ((refine iDraw ?_; (first | refine WC.drawAll rfl (by decide +kernel) ?_ | refine WC.draw 1 rfl (by decide +kernel) ?_ | refine WC.draw 2 rfl (by decide +kernel) ?_ | refine WC.draw 3 rfl (by decide +kernel) ?_ | refine WC.draw 4 rfl (by decide +kernel) ?_ | refine WC.draw 5 rfl (by decide +kernel) ?_ | refine WC.draw 6 rfl (by decide +kernel) ?_ | refine WC.draw 7 rfl (by decide +kernel) ?_ | refine WC.draw 8 rfl (by decide +kernel) ?_ | refine WC.draw 9 rfl (by decide +kernel) ?_ | refine WC.draw 10 rfl (by decide +kernel) ?_ | refine WC.draw 11 rfl (by decide +kernel) ?_ | refine WC.draw 12 rfl (by decide +kernel) ?_ | refine WC.draw 13 rfl (by decide +kernel) ?_ | refine WC.draw 14 rfl (by decide +kernel) ?_ | refine WC.draw 15 rfl (by decide +kernel) ?_ | refine WC.draw 16 rfl (by decide +kernel) ?_ | refine WC.draw 17 rfl (by decide +kernel) ?_ | refine WC.draw 18 rfl (by decide +kernel) ?_ | refine WC.draw 19 rfl (by decide +kernel) ?_ | refine WC.draw 20 rfl (by decide +kernel) ?_ | refine WC.draw 21 rfl (by decide +kernel) ?_ | refine WC.draw 22 rfl (by decide +kernel) ?_ | refine WC.draw 23 rfl (by decide +kernel) ?_ | refine WC.draw 24 rfl (by decide +kernel) ?_)); (repeat (refine WD.cons rfl (fun c h => by cases h) sq_OR1_4 ?_)); refine WD.nil ?_)); (try (refine st ?_; (repeat intro zzc))))); (repeat revert zzc); exact zzn.out) : G := h ⟨next⟩
theorem nil_or_snoc {α : Type} (l : List α) : l = [] ∨ ∃ ys q, l = ys ++ [q] := by
  rcases List.eq_nil_or_concat l with h | ⟨ys, q, h⟩
  · exact .inl h
  · exact .inr ⟨ys, q, by rw [h]; simp⟩
theorem back_seq (l : List UInt8) (hl : l.length ≤ 9223372036854775804) (b : Nat) : SeqC Try.prog 76 [.pointer (some ⟨b, 0, none⟩)] (fun p : Pc => [p.v]) (pieces l).reverse (TextAt b l) := by
  intro w0 lp J Jx m H hcap h0 hY
  have hcap' : m b = some (.cells [str l].toArray 9 (0, 0)) := hcap
  refine Does.of_body Try.func76 rfl Try.ntmps76 rfl ?_
  (try (refine st_OR1_4 ?_; intros))
  refine WC.loopH [(3, .int .i64 ((l.length) : Int)), (0, .func (.yield lp) #[] #[]), (1, .pointer (some ⟨b, 0, none⟩))] ?_ ?_ (fun j r ds m' H' => ∃ (n : Nat) (rest : (List Pc)) (mm : Mem) (H1 : SHeap), j = 2 * n ∧ r = [(3, .int .i64 (n : Int)), (0, .func (.yield lp) #[] #[]), (1, .pointer (some ⟨b, 0, none⟩))] ∧ ds = [] ∧ mm = m' ∧ H' = H1 ∧ (n ≤ l.length) ∧ (pieces l = rest ++ from_ l n) ∧ (m.le mm) ∧ (J (from_ l n).reverse mm H1)) (2 * (l.length)) ⟨l.length, pieces l, m, H, rfl, rfl, rfl, rfl, rfl, by omega, by rw [from_nil (by omega), List.append_nil], Mem.le.refl _, by rw [from_nil (by omega)]; exact h0⟩ ?_
  · (repeat (first | exact Env.Sub.nil | refine Env.Sub.cons rfl ?_))
  · exact zpk
  rintro j r ds m' H' ⟨n, rest, mm, H1, rfl, rfl, rfl, rfl, rfl, hn, hp, hle, hJ⟩
  have hcap1 := hle _ _ hcap'
  rcases nil_or_snoc rest with rfl | ⟨r0, p, rfl⟩
  · have hn0 : n = 0 := by
      rcases Nat.eq_zero_or_pos n with h | h
      · exact h
      · exfalso
        have e := pieces_take hn hp
        rw [pieces, from_cons (by simp; omega)] at e; cases e
    subst hn0
    (try (refine st_OR1_4 ?_; intros))
    apply WQ.finNorm
    · (first | (apply res_tmp; (· exact rfl); (· exact rfl)) | (apply res_cell; (· exact rfl); (· exact rfl); (· (first | (apply Loads.one; (· exact rfl); (· first | (apply Cell.blk; (· (repeat (first | exact List.Mem.head _ | apply List.Mem.tail))); (· exact rfl)) | (apply Cell.mem; (· assumption); (· exact rfl)))) | (apply Loads.whole; (· exact rfl); (· exact rfl); (· (repeat (first | exact List.Mem.head _ | apply List.Mem.tail))); (· exact rfl)) | (apply Loads.blk; (· exact rfl); (· exact rfl); (· (repeat (first | exact List.Mem.head _ | apply List.Mem.tail))); (· (repeat (first | exact Seg.nil | (apply Seg.cons; (· exact rfl)))))) | (apply Loads.row; (· (repeat (first | exact List.Mem.head _ | apply List.Mem.tail))); (first | (rotate_left; (· exact rfl); rotate_right; (· assumption)) | ((· assumption); (· exact rfl))); (· exact rfl); (· exact rfl); (· exact rfl)) | (apply Loads.row1; (· (repeat (first | exact List.Mem.head _ | apply List.Mem.tail))); (first | (rotate_left; (· exact rfl); rotate_right; (· assumption)) | ((· assumption); (· exact rfl))); (· exact rfl)) | (apply Loads.rowF; (· (repeat (first | exact List.Mem.head _ | apply List.Mem.tail))); (first | (rotate_left; (· exact rfl); rotate_right; (· assumption)) | ((· assumption); (· exact rfl))); (· exact rfl); (· exact rfl)) | (apply Loads.prow; (· assumption); (first | (rotate_left; (· exact rfl); rotate_right; (· assumption)) | ((· assumption); (· exact rfl))); (· exact rfl); (· exact rfl); (· exact rfl)) | (apply Loads.prow1; (· assumption); (first | (rotate_left; (· exact rfl); rotate_right; (· assumption)) | ((· assumption); (· exact rfl))); (· exact rfl)) | (apply Loads.prowF; (· assumption); (first | (rotate_left; (· exact rfl); rotate_right; (· assumption)) | ((· assumption); (· exact rfl))); (· exact rfl); (· exact rfl)) | (apply Loads.rrow; (· assumption); (first | (rotate_left; (· exact rfl); rotate_right; (· assumption)) | ((· assumption); (· exact rfl))); (· exact rfl); (· exact rfl); (· exact rfl)) | (apply Loads.rrow1; (· assumption); (first | (rotate_left; (· exact rfl); rotate_right; (· assumption)) | ((· assumption); (· exact rfl))); (· exact rfl)) | (apply Loads.rrowF; (· assumption); (first | (rotate_left; (· exact rfl); rotate_right; (· assumption)) | ((· assumption); (· exact rfl))); (· exact rfl); (· exact rfl)) | (apply Loads.rowS; (· (repeat (first | exact List.Mem.head _ | apply List.Mem.tail))); (first | (rotate_left; (· exact rfl); rotate_right; (· assumption)) | ((· assumption); (· exact rfl))); (· exact rfl); (· exact rfl); (· (repeat (first | exact Seg.nil | (apply Seg.cons; (· exact rfl))))))))) | (apply res_none; exact rfl) | (apply res_many; (· exact rfl); (· repeat (first | exact ResAll.nil | (apply ResAll.tmp; (· exact rfl)) | (apply ResAll.cell; (· exact rfl); (· (first | (apply Loads.one; (· exact rfl); (· first | (apply Cell.blk; (· (repeat (first | exact List.Mem.head _ | apply List.Mem.tail))); (· exact rfl)) | (apply Cell.mem; (· assumption); (· exact rfl)))) | (apply Loads.whole; (· exact rfl); (· exact rfl); (· (repeat (first | exact List.Mem.head _ | apply List.Mem.tail))); (· exact rfl)) | (apply Loads.blk; (· exact rfl); (· exact rfl); (· (repeat (first | exact List.Mem.head _ | apply List.Mem.tail))); (· (repeat (first | exact Seg.nil | (apply Seg.cons; (· exact rfl)))))) | (apply Loads.row; (· (repeat (first | exact List.Mem.head _ | apply List.Mem.tail))); (first | (rotate_left; (· exact rfl); rotate_right; (· assumption)) | ((· assumption); (· exact rfl))); (· exact rfl); (· exact rfl); (· exact rfl)) | (apply Loads.row1; (· (repeat (first | exact List.Mem.head _ | apply List.Mem.tail))); (first | (rotate_left; (· exact rfl); rotate_right; (· assumption)) | ((· assumption); (· exact rfl))); (· exact rfl)) | (apply Loads.rowF; (· (repeat (first | exact List.Mem.head _ | apply List.Mem.tail))); (first | (rotate_left; (· exact rfl); rotate_right; (· assumption)) | ((· assumption); (· exact rfl))); (· exact rfl); (· exact rfl)) | (apply Loads.prow; (· assumption); (first | (rotate_left; (· exact rfl); rotate_right; (· assumption)) | ((· assumption); (· exact rfl))); (· exact rfl); (· exact rfl); (· exact rfl)) | (apply Loads.prow1; (· assumption); (first | (rotate_left; (· exact rfl); rotate_right; (· assumption)) | ((· assumption); (· exact rfl))); (· exact rfl)) | (apply Loads.prowF; (· assumption); (first | (rotate_left; (· exact rfl); rotate_right; (· assumption)) | ((· assumption); (· exact rfl))); (· exact rfl); (· exact rfl)) | (apply Loads.rrow; (· assumption); (first | (rotate_left; (· exact rfl); rotate_right; (· assumption)) | ((· assumption); (· exact rfl))); (· exact rfl); (· exact rfl); (· exact rfl)) | (apply Loads.rrow1; (· assumption); (first | (rotate_left; (· exact rfl); rotate_right; (· assumption)) | ((· assumption); (· exact rfl))); (· exact rfl)) | (apply Loads.rrowF; (· assumption); (first | (rotate_left; (· exact rfl); rotate_right; (· assumption)) | ((· assumption); (· exact rfl))); (· exact rfl); (· exact rfl)) | (apply Loads.rowS; (· (repeat (first | exact List.Mem.head _ | apply List.Mem.tail))); (first | (rotate_left; (· exact rfl); rotate_right; (· assumption)) | ((· assumption); (· exact rfl))); (· exact rfl); (· exact rfl); (· (repeat (first | exact Seg.nil | (apply Seg.cons; (· exact rfl))))))))))); (· exact rfl)))
    · exact ⟨hle, .inl (by rw [show (pieces l).reverse = (from_ l 0).reverse from rfl]; exact hJ)⟩
  · rw [List.append_assoc] at hp
    have hsp := pieces_split (pre := r0) (p := p) (post := from_ l n) (by rw [hp]; rfl)
    have hpt := pieces_take hn (by rw [hp, ← List.append_assoc])
    have hlast : lastP (l.take n) = p := by rw [lastP, hpt]; simp
    have hn0 : 0 < n := by
      rcases Nat.eq_zero_or_pos n with h | h
      · subst h
        have e : pieces (l.take 0) = [] := by rw [pieces, from_nil (by simp)]
        rw [e] at hpt; simp at hpt
      · exact h
    have hw := readP_w hsp.1
    rw [← hsp.2.1] at hw
    have hlt : p.at_ < n := by
      rcases Nat.lt_or_eq_of_le hn with h | h
      · have hm : readP l n ∈ from_ l (p.at_ + p.w) := by
          have e := hsp.2.2.1
          rw [from_cons hsp.1, ← hsp.2.1] at e
          simp only [List.cons.injEq, true_and] at e
          rw [← e, from_cons h]; exact List.mem_cons_self
        obtain ⟨A, B, e⟩ := List.append_of_mem hm
        have := (from_split l l.length _ (by omega) _ _ _ e).1
        rw [readP_at] at this; omega
      · omega
    have htl : (l.take n).length = n := by simp; omega
    (try (refine st_OR1_4 ?_; intros))
    refine w_callF Try.func77 ?_ (hs := last_is hlast (by omega) (by omega) _ _ _)
    rintro _ mm H1 ⟨rfl, rfl, rfl⟩
    (try (refine st_OR1_4 ?_; intros))
    have hD : (from_ l p.at_).reverse = (from_ l n).reverse ++ [p] := by rw [← hsp.2.2.1]; simp
    have hxs : (pieces l).reverse = (from_ l n).reverse ++ p :: r0.reverse := by rw [hp]; simp
    apply WL.yield
    · exact rfl
    · exact rfl
    · exact rfl
    · exact hY _ p _ hxs _ H1 [_] hJ hle
    · rintro m2 _ ⟨H2, rfl, hJ2, hle2⟩
      (try (refine st_OR1_4 ?_; intros))
      refine WQ.next (2 * (p.at_)) ⟨p.at_, r0, m2, H2, rfl, rfl, rfl, rfl, rfl, ?_, ?_, ?_, ?_⟩ (by omega) zsb zpk
      · omega
      · rw [← hsp.2.2.1, hp]; simp
      · exact hle.trans hle2
      · rw [hD]; exact hJ2
    · rintro m2 _ ⟨H2, rfl, hJ2, hle2⟩
      (try (refine st_OR1_4 ?_; intros))
      (refine q_fin0 ?_)
      exact ⟨hle.trans hle2, .inr ⟨(from_ l n).reverse ++ [p], ⟨r0.reverse, by rw [hxs]; simp⟩, hJ2⟩⟩
theorem sq_OR1_5 {G : Prop} (h : G := by (repeat (first | (refine sp ?_; (repeat intro zzc)))); exact WQ.q1 rfl) : G := h
theorem st_OR1_5 {G G' : Prop} (next : G') (h : Bx G' → G := by intro zzn; (first | ((refine st ?_; (repeat intro zzc)); (try ((first | ((refine iDraw ?_; (first | refine WC.drawAll rfl (by decide +kernel) ?_ | refine WC.draw 1 rfl (by decide +kernel) ?_ | refine WC.draw 2 rfl (by decide +kernel) ?_ | refine WC.draw 3 rfl (by decide +kernel) ?_ | refine WC.draw 4 rfl (by decide +kernel) ?_ | refine WC.draw 5 rfl (by decide +kernel) ?_ | refine WC.draw 6 rfl (by decide +kernel) ?_ | refine WC.draw 7 rfl (by decide +kernel) ?_ | refine WC.draw 8 rfl (by decide +kernel) ?_ | refine WC.draw 9 rfl (by decide +kernel) ?_ | refine WC.draw 10 rfl (by decide +kernel) ?_ | refine WC.draw 11 rfl (by decide +kernel) ?_ | refine WC.draw 12 rfl (by decide +kernel) ?_ | refine WC.draw 13 rfl (by decide +kernel) ?_ | refine WC.draw 14 rfl (by decide +kernel) ?_ | refine WC.draw 15 rfl (by decide +kernel) ?_ | refine WC.draw 16 rfl (by decide +kernel) ?_ | refine WC.draw 17 rfl (by decide +kernel) ?_ | refine WC.draw 18 rfl (by decide +kernel) ?_ | refine WC.draw 19 rfl (by decide +kernel) ?_ | refine WC.draw 20 rfl (by decide +kernel) ?_ | refine WC.draw 21 rfl (by decide +kernel) ?_ | refine WC.draw 22 rfl (by decide +kernel) ?_ | refine WC.draw 23 rfl (by decide +kernel) ?_ | refine WC.draw 24 rfl (by decide +kernel) ?_)); (repeat (refine WD.cons rfl (fun c h => by cases h) sq_OR1_5 ?_)); refine WD.nil ?_)); (try (refine st ?_; (repeat intro zzc)))))) | ((first | ((refine iDraw ?_; (first | refine WC.drawAll rfl (by decide +kernel) ?_ | refine WC.draw 1 rfl (by decide +kernel) ?_ | refine WC.draw 2 rfl (by decide +kernel) ?_ | refine WC.draw 3 rfl (by decide +kernel) ?_ | refine WC.draw 4 rfl (by decide +kernel) ?_ | refine WC.draw 5 rfl (by decide +kernel) ?_ | refine WC.draw 6 rfl (by decide +kernel) ?_ | refine WC.draw 7 rfl (by decide +kernel) ?_ | refine WC.draw 8 rfl (by decide +kernel) ?_ | refine WC.draw 9 rfl (by decide +kernel) ?_ | refine WC.draw 10 rfl (by decide +kernel) ?_ | refine WC.draw 11 rfl (by decide +kernel) ?_ | refine WC.draw 12 rfl (by decide +kernel) ?_ | refine WC.draw 13 rfl (by decide +kernel) ?_ | refine WC.draw 14 rfl (by decide +kernel) ?_ | refine WC.draw 15 rfl (by decide +kernel) ?_ | refine WC.draw 16 rfl (by decide +kernel) ?_ | refine WC.draw 17 rfl (by decide +kernel) ?_ | refine WC.draw 18 rfl (by decide +kernel) ?_ | refine WC.draw 19 rfl (by decide +kernel) ?_ | refine WC.draw 20 rfl (by decide +kernel) ?_ | refine WC.draw 21 rfl (by decide +kernel) ?_ | refine WC.draw 22 rfl (by decide +kernel) ?_ | refine WC.draw 23 rfl (by decide +kernel) ?_ | refine WC.draw 24 rfl (by decide +kernel) ?_)); (repeat (refine WD.cons rfl (fun c h => by cases h) sq_OR1_5 ?_)); refine WD.nil ?_)); (try (refine st ?_; (repeat intro zzc))))); (repeat ((first | ((refine iDraw ?_; (first | refine WC.drawAll rfl (by decide +kernel) ?_ | refine WC.draw 1 rfl (by decide +kernel) ?_ | refine WC.draw 2 rfl (by decide +kernel) ?_ | refine WC.draw 3 rfl (by decide +kernel) ?_ | refine WC.draw 4 rfl (by decide +kernel) ?_ | refine WC.draw 5 rfl (by decide +kernel) ?_ | refine WC.draw 6 rfl (by decide +kernel) ?_ | refine WC.draw 7 rfl (by decide +kernel) ?_ | refine WC.draw 8 rfl (by decide +kernel) ?_ | refine WC.draw 9 rfl (by decide +kernel) ?_ | refine WC.draw 10 rfl (by decide +kernel) ?_ | refine WC.draw 11 rfl (by decide +kernel) ?_ | refine WC.draw 12 rfl (by decide +kernel) ?_ | refine WC.draw 13 rfl (by decide +kernel) ?_ | refine WC.draw 14 rfl (by decide +kernel) ?_ | refine WC.draw 15 rfl (by decide +kernel) ?_ | refine WC.draw 16 rfl (by decide +kernel) ?_ | refine WC.draw 17 rfl (by decide +kernel) ?_ | refine WC.draw 18 rfl (by decide +kernel) ?_ | refine WC.draw 19 rfl (by decide +kernel) ?_ | refine WC.draw 20 rfl (by decide +kernel) ?_ | refine WC.draw 21 rfl (by decide +kernel) ?_ | refine WC.draw 22 rfl (by decide +kernel) ?_ | refine WC.draw 23 rfl (by decide +kernel) ?_ | refine WC.draw 24 rfl (by decide +kernel) ?_)); (repeat (refine WD.cons rfl (fun c h => by cases h) sq_OR1_5 ?_)); refine WD.nil ?_)); (try (refine st ?_; (repeat intro zzc))))); (repeat revert zzc); exact zzn.out) : G := h ⟨next⟩
theorem begun_any (l : List UInt8) (hl : l.length ≤ 9223372036854775804) (w0 : World) (m : Mem) (H : SHeap) :
    Does Try.prog 87 #[str l] w0 m H (Gives (.tuple #[.int .i64 ((begunOf l).1 : Int), .int .i64 ((begunOf l).2 : Int)]) m H) := by
  refine Does.of_body (args := [str l]) Try.func87 rfl Try.ntmps87 rfl ?_
  (try (refine st_OR1_5 ?_; intros))
  refine WC.loopH [(4, .int .i64 ((1) : Int)), (0, str l)] ?_ ?_ (fun j r ds m' H' => ∃ k, j = 4 - k ∧ r = [(4, .int .i64 (k : Int)), (0, str l)] ∧ ds = [] ∧ m = m' ∧ H' = H ∧ (1 ≤ k ∧ k ≤ 4) ∧ (begunOf l = begunK l (4 - k))) (4 - (1)) ⟨1, rfl, rfl, rfl, rfl, rfl, by omega, rfl⟩ ?_
  · (repeat (first | exact Env.Sub.nil | refine Env.Sub.cons rfl ?_))
  · exact zpk
  rintro j r ds m' H' ⟨k, rfl, rfl, rfl, rfl, rfl, hk, hbk⟩
  generalize H' = H
  by_cases hk3 : k ≤ 3
  · by_cases hkl : k ≤ l.length
    · have ht : ((l.length : Int) - (k : Int)).toNat = l.length - k := by omega
      obtain ⟨b, hb⟩ : ∃ b, l.drop (l.length - k) = b := ⟨_, rfl⟩
      have hbl : b.length = k := by rw [← hb]; simp; omega
      have hty := begun_yes hk.1 hk3 hkl
      have htn := begun_next hk.1 hk3 hkl
      rw [hb] at hty htn
      have hc0 := nb_lt b 0
      generalize hx : gb b 0 = x at hc0
      have hbg : begOk b ↔ k < ldN x ∧ (1 < k → loN x ≤ nb b 1 ∧ nb b 1 ≤ hiN x) ∧ (2 < k → 128 ≤ nb b 2 ∧ nb b 2 ≤ 191) := by
        unfold begOk; rw [hbl, show nb b 0 = x from hx]
      (try (refine st_OR1_5 ?_; intros))
      rw [hb]
      by_cases hc1 : x < 194
      · (try (refine st_OR1_5 ?_; intros))
        rw [hx]
        have hnb : ¬ begOk b := fun h => by have := (hbg.1 h).1; simp [ldN, hc1] at this
        (try (refine st_OR1_5 ?_; intros))
        refine WQ.next (4 - (k + 1)) ⟨k + 1, rfl, rfl, rfl, rfl, rfl, ?_, ?_⟩ (by omega) zsb zpk
        · omega
        · rw [hbk, htn hnb]
      by_cases hc2 : 244 < x
      · (try (refine st_OR1_5 ?_; intros))
        rw [hx]
        have hnb : ¬ begOk b := fun h => by have := (hbg.1 h).1; simp [ldN, hc2] at this
        (try (refine st_OR1_5 ?_; intros))
        refine WQ.next (4 - (k + 1)) ⟨k + 1, rfl, rfl, rfl, rfl, rfl, ?_, ?_⟩ (by omega) zsb zpk
        · omega
        · rw [hbk, htn hnb]
      (try (refine st_OR1_5 ?_; intros))
      rw [hx]
      (try (refine st_OR1_5 ?_; intros))
      refine WC.join (fun r' ds' m' H' => ∃ n lo hi : Nat, n = ldN x ∧ lo = loN x ∧ hi = hiN x ∧ r' = [(6, .int .i64 (n : Int)), (7, .int .u8 (lo : Int)), (8, .int .u8 (hi : Int)), (5, str b), (4, .int .i64 (k : Int)), (0, str l)] ∧ ds' = [] ∧ m' = m ∧ H' = H) ?_ ?_
      · by_cases g1 : x < 224
        · (try (refine st_OR1_5 ?_; intros))
          exact WQ.join ⟨2, 128, 191, by simp [ldN, hc1, hc2, g1], by unfold loN; rw [if_neg (by omega), if_neg (by omega)], by unfold hiN; rw [if_neg (by omega), if_neg (by omega)], rfl, rfl, rfl, rfl⟩ zsb zpk
        by_cases g2 : x < 240
        · by_cases g3 : x = 224
          · subst g3
            (try (refine st_OR1_5 ?_; intros))
            exact WQ.join ⟨3, 160, 191, rfl, rfl, rfl, rfl, rfl, rfl, rfl⟩ zsb zpk
          by_cases g4 : x = 237
          · subst g4
            (try (refine st_OR1_5 ?_; intros))
            exact WQ.join ⟨3, 128, 159, rfl, rfl, rfl, rfl, rfl, rfl, rfl⟩ zsb zpk
          (try (refine st_OR1_5 ?_; intros))
          exact WQ.join ⟨3, 128, 191, by simp [ldN, hc1, hc2, g1, g2], by unfold loN; rw [if_neg (by omega), if_neg (by omega)], by unfold hiN; rw [if_neg (by omega), if_neg (by omega)], rfl, rfl, rfl, rfl⟩ zsb zpk
        by_cases g3 : x = 240
        · subst g3
          (try (refine st_OR1_5 ?_; intros))
          exact WQ.join ⟨4, 144, 191, rfl, rfl, rfl, rfl, rfl, rfl, rfl⟩ zsb zpk
        by_cases g4 : x = 244
        · subst g4
          (try (refine st_OR1_5 ?_; intros))
          exact WQ.join ⟨4, 128, 143, rfl, rfl, rfl, rfl, rfl, rfl, rfl⟩ zsb zpk
        (try (refine st_OR1_5 ?_; intros))
        exact WQ.join ⟨4, 128, 191, by simp [ldN, hc1, hc2, g1, g2], by unfold loN; rw [if_neg (by omega), if_neg (by omega)], by unfold hiN; rw [if_neg (by omega), if_neg (by omega)], rfl, rfl, rfl, rfl⟩ zsb zpk
      rintro _ _ m H ⟨n, lo, hi, hn, hlo, hhi, rfl, rfl, rfl, rfl⟩
      have hn4 := ldN_le x
      by_cases hkn : n ≤ k
      · have hnb : ¬ begOk b := fun h => by have := (hbg.1 h).1; omega
        (try (refine st_OR1_5 ?_; intros))
        refine WQ.next (4 - (k + 1)) ⟨k + 1, rfl, rfl, rfl, rfl, rfl, ?_, ?_⟩ (by omega) zsb zpk
        · omega
        · rw [hbk, htn hnb]
      have hd1 : (b.drop 1).length = k - 1 := by simp; omega
      (refine st_OR1_5 ?_; intros; rename_i y cy)
      refine WC.loopH [(58, .int .i64 ((0) : Int)), (57, .int .i64 ((b.drop 1).length : Int)), (56, .slice (some ⟨y, 0, none⟩) (b.drop 1).length cy), (7, .int .u8 ((lo) : Int)), (8, .int .u8 ((hi) : Int)), (6, .int .i64 (n : Int)), (5, str b), (4, .int .i64 (k : Int)), (0, str l)] ?_ ?_ (fun j r ds m' H' => ∃ i lo' hi', j = (b.drop 1).length - i ∧ r = [(58, .int .i64 (i : Int)), (57, .int .i64 ((b.drop 1).length : Int)), (56, .slice (some ⟨y, 0, none⟩) (b.drop 1).length cy), (7, .int .u8 (lo' : Int)), (8, .int .u8 (hi' : Int)), (6, .int .i64 (n : Int)), (5, str b), (4, .int .i64 (k : Int)), (0, str l)] ∧ ds = [] ∧ m = m' ∧ H' = .row (some ⟨y, 0, none⟩) cy 5 1 ((b.drop 1).map fun b => [Value.int .u8 (b.toNat : Int)]) :: H ∧ (i ≤ (b.drop 1).length) ∧ ((i = 0 → lo' = lo ∧ hi' = hi) ∧ (0 < i → lo' = 128 ∧ hi' = 191)) ∧ ((0 < i → loN x ≤ nb b 1 ∧ nb b 1 ≤ hiN x) ∧ (1 < i → 128 ≤ nb b 2 ∧ nb b 2 ≤ 191))) ((b.drop 1).length - (0)) ⟨0, lo, hi, rfl, rfl, rfl, rfl, rfl, by omega, by simp, by omega⟩ ?_
      · (repeat (first | exact Env.Sub.nil | refine Env.Sub.cons rfl ?_))
      · exact zpk
      rintro j r ds m' H' ⟨i, lo', hi', rfl, rfl, rfl, rfl, rfl, hi1, hlh, hok⟩
      by_cases hlt : i < (b.drop 1).length
      · obtain ⟨u, hu, hget, htk, hmem, hdr⟩ := at_idx (f := fun b : UInt8 => [Value.int .u8 (b.toNat : Int)]) hlt
        have hub : u.toNat = nb b (i + 1) := by
          have : b[1 + i]? = some u := by rw [← hu, List.getElem?_drop]
          simp only [nb, gb, List.getD_eq_getElem?_getD]
          rw [show i + 1 = 1 + i by omega, this]; rfl
        generalize hv : u.toNat = v at *
        by_cases q1 : v < lo'
        · have hnb : ¬ begOk b := fun h => by
            have := (hbg.1 h).2
            rcases (show i = 0 ∨ i = 1 by omega) with rfl | rfl
            · have h1 := hlh.1 rfl; have h2 := this.1 (by omega); simp at hub; omega
            · have h1 := hlh.2 (by omega); have h2 := this.2 (by omega); simp at hub; omega
          (try (refine st_OR1_5 ?_; intros))
          refine WQ.next (4 - (k + 1)) ⟨k + 1, rfl, rfl, rfl, rfl, rfl, ?_, ?_⟩ (by omega) zsb zpk
          · omega
          · rw [hbk, htn hnb]
        by_cases q2 : hi' < v
        · have hnb : ¬ begOk b := fun h => by
            have := (hbg.1 h).2
            rcases (show i = 0 ∨ i = 1 by omega) with rfl | rfl
            · have h1 := hlh.1 rfl; have h2 := this.1 (by omega); simp at hub; omega
            · have h1 := hlh.2 (by omega); have h2 := this.2 (by omega); simp at hub; omega
          (try (refine st_OR1_5 ?_; intros))
          refine WQ.next (4 - (k + 1)) ⟨k + 1, rfl, rfl, rfl, rfl, rfl, ?_, ?_⟩ (by omega) zsb zpk
          · omega
          · rw [hbk, htn hnb]
        (try (refine st_OR1_5 ?_; intros))
        refine WQ.next ((b.drop 1).length - (i + 1)) ⟨i + 1, 128, 191, rfl, rfl, rfl, rfl, rfl, ?_, ?_, ?_⟩ (by omega) zsb zpk
        · omega
        · omega
        · rcases (show i = 0 ∨ i = 1 by omega) with rfl | rfl
          · have h1 := hlh.1 rfl; simp at hub; omega
          · have h1 := hlh.2 (by omega); simp at hub; omega
      · have hb1 : begOk b := hbg.2 ⟨by omega, fun h => hok.1 (by omega), fun h => hok.2 (by omega)⟩
        have hlk : lackOf b = n - k := by unfold lackOf; rw [if_pos hb1, hbl, show nb b 0 = x from hx, hn]
        (try (refine st_OR1_5 ?_; intros))
        (refine q_fin0 ?_)
        refine Gives.mk ?_
        rw [hbk, hty hb1, hlk, show ((n - k : Nat) : Int) = (n : Int) - (k : Int) by omega]
    · have he := begun_end (l := l) hk.1 (fun _ => by omega)
      (try (refine st_OR1_5 ?_; intros))
      (refine q_fin0 ?_)
      exact Gives.mk (by rw [hbk, he]; rfl)
  · have he := begun_end (l := l) hk.1 (fun h => absurd h hk3)
    (try (refine st_OR1_5 ?_; intros))
    (refine q_fin0 ?_)
    exact Gives.mk (by rw [hbk, he]; rfl)
theorem sq_OR1_6 {G : Prop} (h : G := by (repeat (first | (refine sp ?_; (repeat intro zzc)) | (refine iF 87 rfl ?_; refine w_callG Try.func87 ?_ (hs := begun_any _ (by omega) _ _ _)))); exact WQ.q1 rfl) : G := h
theorem st_OR1_6 {G G' : Prop} (next : G') (h : Bx G' → G := by intro zzn; (first | ((refine st ?_; (repeat intro zzc)); (try ((first | (refine iF 87 rfl ?_; refine w_callG Try.func87 ?_ (hs := begun_any _ (by omega) _ _ _)) | ((refine iDraw ?_; (first | refine WC.drawAll rfl (by decide +kernel) ?_ | refine WC.draw 1 rfl (by decide +kernel) ?_ | refine WC.draw 2 rfl (by decide +kernel) ?_ | refine WC.draw 3 rfl (by decide +kernel) ?_ | refine WC.draw 4 rfl (by decide +kernel) ?_ | refine WC.draw 5 rfl (by decide +kernel) ?_ | refine WC.draw 6 rfl (by decide +kernel) ?_ | refine WC.draw 7 rfl (by decide +kernel) ?_ | refine WC.draw 8 rfl (by decide +kernel) ?_ | refine WC.draw 9 rfl (by decide +kernel) ?_ | refine WC.draw 10 rfl (by decide +kernel) ?_ | refine WC.draw 11 rfl (by decide +kernel) ?_ | refine WC.draw 12 rfl (by decide +kernel) ?_ | refine WC.draw 13 rfl (by decide +kernel) ?_ | refine WC.draw 14 rfl (by decide +kernel) ?_ | refine WC.draw 15 rfl (by decide +kernel) ?_ | refine WC.draw 16 rfl (by decide +kernel) ?_ | refine WC.draw 17 rfl (by decide +kernel) ?_ | refine WC.draw 18 rfl (by decide +kernel) ?_ | refine WC.draw 19 rfl (by decide +kernel) ?_ | refine WC.draw 20 rfl (by decide +kernel) ?_ | refine WC.draw 21 rfl (by decide +kernel) ?_ | refine WC.draw 22 rfl (by decide +kernel) ?_ | refine WC.draw 23 rfl (by decide +kernel) ?_ | refine WC.draw 24 rfl (by decide +kernel) ?_)); (repeat (refine WD.cons rfl (fun c h => by cases h) sq_OR1_6 ?_)); refine WD.nil ?_)); (try (refine st ?_; (repeat intro zzc)))))) | ((first | (refine iF 87 rfl ?_; refine w_callG Try.func87 ?_ (hs := begun_any _ (by omega) _ _ _)) | ((refine iDraw ?_; (first | refine WC.drawAll rfl (by decide +kernel) ?_ | refine WC.draw 1 rfl (by decide +kernel) ?_ | refine WC.draw 2 rfl (by decide +kernel) ?_ | refine WC.draw 3 rfl (by decide +kernel) ?_ | refine WC.draw 4 rfl (by decide +kernel) ?_ | refine WC.draw 5 rfl (by decide +kernel) ?_ | refine WC.draw 6 rfl (by decide +kernel) ?_ | refine WC.draw 7 rfl (by decide +kernel) ?_ | refine WC.draw 8 rfl (by decide +kernel) ?_ | refine WC.draw 9 rfl (by decide +kernel) ?_ | refine WC.draw 10 rfl (by decide +kernel) ?_ | refine WC.draw 11 rfl (by decide +kernel) ?_ | refine WC.draw 12 rfl (by decide +kernel) ?_ | refine WC.draw 13 rfl (by decide +kernel) ?_ | refine WC.draw 14 rfl (by decide +kernel) ?_ | refine WC.draw 15 rfl (by decide +kernel) ?_ | refine WC.draw 16 rfl (by decide +kernel) ?_ | refine WC.draw 17 rfl (by decide +kernel) ?_ | refine WC.draw 18 rfl (by decide +kernel) ?_ | refine WC.draw 19 rfl (by decide +kernel) ?_ | refine WC.draw 20 rfl (by decide +kernel) ?_ | refine WC.draw 21 rfl (by decide +kernel) ?_ | refine WC.draw 22 rfl (by decide +kernel) ?_ | refine WC.draw 23 rfl (by decide +kernel) ?_ | refine WC.draw 24 rfl (by decide +kernel) ?_)); (repeat (refine WD.cons rfl (fun c h => by cases h) sq_OR1_6 ?_)); refine WD.nil ?_)); (try (refine st ?_; (repeat intro zzc))))); (repeat ((first | (refine iF 87 rfl ?_; refine w_callG Try.func87 ?_ (hs := begun_any _ (by omega) _ _ _)) | ((refine iDraw ?_; (first | refine WC.drawAll rfl (by decide +kernel) ?_ | refine WC.draw 1 rfl (by decide +kernel) ?_ | refine WC.draw 2 rfl (by decide +kernel) ?_ | refine WC.draw 3 rfl (by decide +kernel) ?_ | refine WC.draw 4 rfl (by decide +kernel) ?_ | refine WC.draw 5 rfl (by decide +kernel) ?_ | refine WC.draw 6 rfl (by decide +kernel) ?_ | refine WC.draw 7 rfl (by decide +kernel) ?_ | refine WC.draw 8 rfl (by decide +kernel) ?_ | refine WC.draw 9 rfl (by decide +kernel) ?_ | refine WC.draw 10 rfl (by decide +kernel) ?_ | refine WC.draw 11 rfl (by decide +kernel) ?_ | refine WC.draw 12 rfl (by decide +kernel) ?_ | refine WC.draw 13 rfl (by decide +kernel) ?_ | refine WC.draw 14 rfl (by decide +kernel) ?_ | refine WC.draw 15 rfl (by decide +kernel) ?_ | refine WC.draw 16 rfl (by decide +kernel) ?_ | refine WC.draw 17 rfl (by decide +kernel) ?_ | refine WC.draw 18 rfl (by decide +kernel) ?_ | refine WC.draw 19 rfl (by decide +kernel) ?_ | refine WC.draw 20 rfl (by decide +kernel) ?_ | refine WC.draw 21 rfl (by decide +kernel) ?_ | refine WC.draw 22 rfl (by decide +kernel) ?_ | refine WC.draw 23 rfl (by decide +kernel) ?_ | refine WC.draw 24 rfl (by decide +kernel) ?_)); (repeat (refine WD.cons rfl (fun c h => by cases h) sq_OR1_6 ?_)); refine WD.nil ?_)); (try (refine st ?_; (repeat intro zzc))))); (repeat revert zzc); exact zzn.out) : G := h ⟨next⟩
theorem wants_any (l : List UInt8) (hl : l.length ≤ 9223372036854775804) (w0 : World) (m : Mem) (H : SHeap) : Does Try.prog 74 #[str l] w0 m H (Gives (.int .i64 ((begunOf l).2 : Int)) m H) := by
  refine Does.of_body (args := [str l]) Try.func74 rfl Try.ntmps74 rfl ?_
  (try (refine st_OR1_6 ?_; intros))
  (refine q_fin0 ?_)
  exact Gives.mk rfl
theorem from_length (l : List UInt8) : ∀ d k, l.length - k ≤ d → (from_ l k).length ≤ l.length - k
  | 0, k, h => by rw [from_nil (by omega)]; simp
  | d + 1, k, h => by
    by_cases hk : k < l.length
    · have hw := readP_w hk
      rw [from_cons hk, List.length_cons]
      have := from_length l d (k + (readP l k).w) (by omega)
      omega
    · rw [from_nil hk]; simp
theorem pieces_length (l : List UInt8) : (pieces l).length ≤ l.length := from_length l l.length 0 (by omega)
theorem eq_piece (a b c a' b' c' : Int) (d d' : Bool) : eqB Try.prog 8 40 (.agg #[.int .i64 a, .int .i64 b, .int .i32 c, .bool d]) (.agg #[.int .i64 a', .int .i64 b', .int .i32 c', .bool d']) = some (dcd (a = a' ∧ b = b' ∧ c = c' ∧ d = d')) := by
  have h : eqB Try.prog 8 40 (.agg #[.int .i64 a, .int .i64 b, .int .i32 c, .bool d]) (.agg #[.int .i64 a', .int .i64 b', .int .i32 c', .bool d']) = some (a == a' && (b == b' && (c == c' && (d == d' && true)))) := by kernel_rfl
  rw [h]
  by_cases hp : a = a' ∧ b = b' ∧ c = c' ∧ d = d'
  · rw [dcd_true hp]; obtain ⟨rfl, rfl, rfl, rfl⟩ := hp; simp
  · rw [dcd_false hp]
    simp only [Bool.and_true, Option.some.injEq, Bool.and_eq_false_iff, beq_eq_false_iff_ne]
    by_cases h1 : a = a' <;> by_cases h2 : b = b' <;> by_cases h3 : c = c' <;> by_cases h4 : d = d' <;> simp_all
end Go.Proofs.Ytljfncpecpkhhaa

/-
  Plain facts for ropes: what is told of a text that comes in by parts, in order; where the beginning of a form at its end stands. No condition.
-/
namespace Go.Eng
open Go
theorem between {L : List UInt8} {t u : Nat} {told : List Pc} (h0 : pieces L = told ++ from_ L t) (h2 : Reach L u) (hle : t ≤ u) (hu : u ≤ L.length) : from_ L t = toldOf L t u ++ from_ L u := by
  have h1 : Reach L t := ⟨told, h0⟩
  obtain ⟨p1, e1, a1, b1⟩ := reach_parts h1
  obtain ⟨p2, e2, a2, b2⟩ := reach_parts h2
  have hlt : ∀ p ∈ pieces L, p.at_ < L.length := fun p hp => (mem_w hp).1
  have ha2 : ∀ q ∈ p2, q.at_ < u := by
    intro q hq
    rcases a2 q hq with h | h
    · exact h
    · have := hlt q (by rw [e2]; exact List.mem_append_left _ hq); omega
  have ha1 : ∀ q ∈ p1, q.at_ < t := by
    intro q hq
    rcases a1 q hq with h | h
    · exact h
    · have := hlt q (by rw [e1]; exact List.mem_append_left _ hq); omega
  obtain ⟨mid, hm⟩ : ∃ mid, from_ L t = mid ++ from_ L u := by
    rcases List.append_eq_append_iff.1 (e1.symm.trans e2) with ⟨c, h3, h4⟩ | ⟨c, h3, h4⟩
    · exact ⟨c, h4⟩
    · have hc : c = [] := by
        cases c with
        | nil => rfl
        | cons q c =>
          have g1 := ha1 q (by rw [h3]; simp)
          have g2 := b2 q (by rw [h4]; simp)
          omega
      subst hc
      exact ⟨[], by simpa using h4.symm⟩
  rw [told_mid hu hle hm]
  exact hm
/-- one more part: what is sure of it is told next -/
theorem part_told {L A x rest : List UInt8} {told : List Pc} (hL : L = A ++ x ++ rest) (h0 : pieces L = told ++ from_ L (cutAt A)) {h : List UInt8} (hh : h = A.drop (cutAt A)) :
    cutAt A + ((h ++ x).length - (begunOf (h ++ x)).1) = cutAt (A ++ x) ∧ (h ++ x).drop ((h ++ x).length - (begunOf (h ++ x)).1) = (A ++ x).drop (cutAt (A ++ x)) ∧
      pieces L = told ++ (pieces ((h ++ x).take ((h ++ x).length - (begunOf (h ++ x)).1))).map (Pc.sh (cutAt A)) ++ from_ L (cutAt (A ++ x)) := by
  subst hh
  have f := put_facts A x
  refine ⟨f.cut, f.rest, ?_⟩
  have hle := cut_mono A x
  have hu : cutAt (A ++ x) ≤ (A ++ x).length := cut_le _
  have hr : Reach L (cutAt (A ++ x)) := by rw [hL]; exact cut_reach (A ++ x) rest
  have hb := between h0 hr hle (by rw [hL]; simp at hu ⊢; omega)
  rw [h0, hb, ← List.append_assoc, f.tells]
  congr 2
  unfold toldOf
  rw [hL, List.drop_append_of_le_length (by omega), List.take_append_of_le_length (by simp at hu ⊢; omega)]
theorem rest_told {L : List UInt8} {told : List Pc} (h0 : pieces L = told ++ from_ L (cutAt L)) : pieces L = told ++ (pieces (L.drop (cutAt L))).map (Pc.sh (cutAt L)) := by
  have := from_drop L (cutAt L) (L.drop (cutAt L)).length 0 (by simp)
  rw [h0, pieces, this, Nat.add_zero]
theorem begun_le (l : List UInt8) : (begunOf l).1 ≤ 3 ∧ (begunOf l).1 ≤ l.length := ⟨(begunK_bound l 3 (Nat.le_refl _)).1, (begunK_bound l 3 (Nat.le_refl _)).2.1⟩
/-- where the beginning at a text's end stands -/
theorem open_zero {l : List UInt8} : (begunOf l).2 = 0 ↔ (begunOf l).1 = 0 := by
  rcases begun_cases l with ⟨h0, hno⟩ | ⟨h1, h3, hk, hb⟩
  · have : begunOf l = (0, 0) := begunK_none hno 1 (Nat.le_refl _) (by omega)
    rw [this]
  · generalize hq : (begunOf l).1 = k at *
    have : begunOf l = (k, lackOf (l.drop (l.length - k))) := begunK_of h1 h3 hk hb 1 (Nat.le_refl _) h1
    have hp := lack_pos.2 hb
    rw [this]
    simp only []
    omega
theorem open_at {l : List UInt8} (h : (begunOf l).1 ≠ 0) : 1 ≤ (begunOf l).1 ∧ (begunOf l).1 ≤ 3 ∧ (begunOf l).1 ≤ l.length ∧ 192 ≤ gb l (l.length - (begunOf l).1) ∧ ∀ j, 1 ≤ j → j < (begunOf l).1 → gb l (l.length - j) < 192 := by
  rcases begun_cases l with ⟨h0, _⟩ | ⟨h1, h3, hk, hb⟩
  · exact absurd h0 h
  · generalize (begunOf l).1 = k at *
    have e : ∀ i, nb (l.drop (l.length - k)) i = gb l (l.length - k + i) := fun i => nb_drop _ _ _
    have hlen : (l.drop (l.length - k)).length = k := by simp; omega
    have hl1 := ldN_lead (c := nb (l.drop (l.length - k)) 0) (by have := hb.1; omega)
    have hlh := lo_hi (nb (l.drop (l.length - k)) 0)
    rw [e 0, Nat.add_zero] at hl1
    refine ⟨h1, h3, hk, by omega, fun j hj hjk => ?_⟩
    rcases (show k - j = 1 ∨ k - j = 2 by omega) with hd | hd
    · have := hb.2.1 (by omega)
      rw [e 1, show l.length - k + 1 = l.length - j by omega] at this
      omega
    · have := hb.2.2 (by omega)
      rw [e 2, show l.length - k + 2 = l.length - j by omega] at this
      omega
/-- three bytes that are held, of which some count -/
theorem held3 {x y z : Int} : ∀ s : List UInt8, s.length ≤ 3 → ∃ x' y' z' : Int, laid [Value.int .u8 x, .int .u8 y, .int .u8 z] 0 (s.map fun b => Value.int .u8 (b.toNat : Int)) = [.int .u8 x', .int .u8 y', .int .u8 z'] ∧ [Value.int .u8 x', .int .u8 y', .int .u8 z'].take s.length = s.map fun b => Value.int .u8 (b.toNat : Int)
  | [], _ => ⟨x, y, z, rfl, rfl⟩
  | [b], _ => ⟨b.toNat, y, z, rfl, rfl⟩
  | [b, c], _ => ⟨b.toNat, c.toNat, z, rfl, rfl⟩
  | [b, c, d], _ => ⟨b.toNat, c.toNat, d.toNat, rfl, rfl⟩
  | _ :: _ :: _ :: _ :: _, h => by simp at h
end Go.Eng

/-
  The walks of ropes' iterators: Parts, open, Pieces. No condition.
-/
namespace Go.Proofs.Ytljfncpecpkhhaa
open Go Go.Eng
set_option maxRecDepth 100000
set_option maxHeartbeats 4000000
set_option linter.all false
attribute [local irreducible] WL WC WQ QFun QLoop Does Q1 QRound QAssign Go.Addr.add
attribute [local irreducible] begunK lackOf
/-- a rope in memory, its node named -/
def RopeT (m : Mem) (p : Value) (o : Option Nd) : Prop := ∃ b v, p = .pointer (some ⟨b, 0, none⟩) ∧ m b = some (.cells [v].toArray 82 (0, 0)) ∧ RAt m o v ∧ OkR o ∧ (rtxt o).length ≤ 16777216
theorem RopeAt.node {m : Mem} {p : Value} {s : List UInt8} (h : RopeAt m p s) : ∃ o, RopeT m p o ∧ rtxt o = s := by
  obtain ⟨b, v, o, h1, h2, h3, h4, rfl, h6, _⟩ := h
  exact ⟨o, ⟨b, v, h1, h2, h3, h4, h6⟩, rfl⟩
theorem RopeT.le {m m' : Mem} {p : Value} {o : Option Nd} (h : RopeT m p o) (hm : m.le m') : RopeT m' p o := by
  obtain ⟨b, v, h1, h2, h3, h4⟩ := h
  exact ⟨b, v, h1, hm _ _ h2, h3.le hm, h4⟩
def partsR : Option Nd → List (List UInt8)
  | none => []
  | some T => T.parts
theorem partsR_txt (o : Option Nd) : (partsR o).flatten = rtxt o := by
  cases o with
  | none => rfl
  | some T => exact Nd.parts_text T
/-- what a rope's iterators lean on -/
def RopeIn (b : Nat) (p : Value) (o : Option Nd) (m : Mem) : Prop := m b = some (.cells [p].toArray 23 (0, 0)) ∧ RopeT m p o
theorem RopeIn.le {m m' : Mem} {b : Nat} {p : Value} {o : Option Nd} (h : RopeIn b p o m) (hm : m.le m') : RopeIn b p o m' := ⟨hm _ _ h.1, h.2.le hm⟩
def IterR (f : Nat) (p : Value) (m : Mem) (H : SHeap) : Value → Mem → SHeap → Prop := fun v m' H' => ∃ b, v = .func (.func f) #[] #[.pointer (some ⟨b, 0, none⟩)] ∧ m' = m ∧ H' = .blk b (.cells [p].toArray 23 (0, 0)) :: H
theorem partsIt_any {q : Option Addr} (w0 : World) (m : Mem) (H : SHeap) : Does Try.prog 27 #[.pointer q] w0 m H (IterR 53 (.pointer q) m H) := by
  refine Does.of_body (args := [.pointer q]) Try.func27 rfl Try.ntmps27 rfl ?_
  (refine st ?_; intros; rename_i b)
  exact q_fin0 (H0 := .blk b (.cells [.pointer q].toArray 23 (0, 0)) :: H) ⟨b, rfl, rfl, rfl⟩ (hd := zpk)
theorem piecesIt_any {q : Option Addr} (w0 : World) (m : Mem) (H : SHeap) : Does Try.prog 23 #[.pointer q] w0 m H (IterR 45 (.pointer q) m H) := by
  refine Does.of_body (args := [.pointer q]) Try.func23 rfl Try.ntmps23 rfl ?_
  (refine st ?_; intros; rename_i b)
  exact q_fin0 (H0 := .blk b (.cells [.pointer q].toArray 23 (0, 0)) :: H) ⟨b, rfl, rfl, rfl⟩ (hd := zpk)
theorem backIt_any {q : Option Addr} (w0 : World) (m : Mem) (H : SHeap) : Does Try.prog 26 #[.pointer q] w0 m H (IterR 48 (.pointer q) m H) := by
  refine Does.of_body (args := [.pointer q]) Try.func26 rfl Try.ntmps26 rfl ?_
  (refine st ?_; intros; rename_i b)
  exact q_fin0 (H0 := .blk b (.cells [.pointer q].toArray 23 (0, 0)) :: H) ⟨b, rfl, rfl, rfl⟩ (hd := zpk)
theorem parts_seq {b : Nat} {p : Value} {o : Option Nd} : SeqC Try.prog 53 [.pointer (some ⟨b, 0, none⟩)] (fun s : List UInt8 => [str s]) (partsR o) (RopeIn b p o) := by
  rintro w0 lp J Jx m H ⟨hcap, a, v, rfl, ha, hv, ok, hl⟩ h0 hY
  refine Does.of_body Try.func53 rfl Try.ntmps53 rfl ?_
  (try (refine st ?_; intros))
  cases o with
  | none =>
    cases hv
    refine w_callF Try.func54 ?_ (hs := leavesNil_any _ _)
    rintro u m H ⟨rfl, rfl, rfl⟩
    (try (refine st ?_; intros))
    exact q_finNorm0 (H0 := H) ⟨Mem.le.refl _, .inl h0⟩ (hd := zpk)
  | some T =>
    refine w_callF Try.func54 ?_ (hs := leaves_any T v J Jx m H hv h0 (fun pre x post hx m1 H1 Hit hJ hle => FnOK.yield (hY pre x post hx m1 H1 Hit hJ hle)))
    rintro u m1 H1 ⟨hle, ⟨rfl, hJ⟩ | ⟨rfl, pre, hpre, hJ⟩⟩
    · (try (refine st ?_; intros))
      exact q_finNorm0 (H0 := H1) ⟨hle, .inl hJ⟩ (hd := zpk)
    · (try (refine st ?_; intros))
      exact q_finNorm0 (H0 := H1) ⟨hle, .inr ⟨pre, hpre, hJ⟩⟩ (hd := zpk)
theorem sq_O8_1 {G : Prop} (h : G := by (repeat (first | (refine sp ?_; (repeat intro zzc)) | (refine iF 74 rfl ?_; refine w_callG Try.func74 ?_ (hs := wants_any _ (by omega) _ _ _)))); exact WQ.q1 rfl) : G := h
theorem st_O8_1 {G G' : Prop} (next : G') (h : Bx G' → G := by intro zzn; (first | ((refine st ?_; (repeat intro zzc)); (try ((first | (refine iF 74 rfl ?_; refine w_callG Try.func74 ?_ (hs := wants_any _ (by omega) _ _ _)) | ((refine iDraw ?_; (first | refine WC.drawAll rfl (by decide +kernel) ?_ | refine WC.draw 1 rfl (by decide +kernel) ?_ | refine WC.draw 2 rfl (by decide +kernel) ?_ | refine WC.draw 3 rfl (by decide +kernel) ?_ | refine WC.draw 4 rfl (by decide +kernel) ?_ | refine WC.draw 5 rfl (by decide +kernel) ?_ | refine WC.draw 6 rfl (by decide +kernel) ?_ | refine WC.draw 7 rfl (by decide +kernel) ?_ | refine WC.draw 8 rfl (by decide +kernel) ?_ | refine WC.draw 9 rfl (by decide +kernel) ?_ | refine WC.draw 10 rfl (by decide +kernel) ?_ | refine WC.draw 11 rfl (by decide +kernel) ?_ | refine WC.draw 12 rfl (by decide +kernel) ?_ | refine WC.draw 13 rfl (by decide +kernel) ?_ | refine WC.draw 14 rfl (by decide +kernel) ?_ | refine WC.draw 15 rfl (by decide +kernel) ?_ | refine WC.draw 16 rfl (by decide +kernel) ?_ | refine WC.draw 17 rfl (by decide +kernel) ?_ | refine WC.draw 18 rfl (by decide +kernel) ?_ | refine WC.draw 19 rfl (by decide +kernel) ?_ | refine WC.draw 20 rfl (by decide +kernel) ?_ | refine WC.draw 21 rfl (by decide +kernel) ?_ | refine WC.draw 22 rfl (by decide +kernel) ?_ | refine WC.draw 23 rfl (by decide +kernel) ?_ | refine WC.draw 24 rfl (by decide +kernel) ?_)); (repeat (refine WD.cons rfl (fun c h => by cases h) sq_O8_1 ?_)); refine WD.nil ?_)); (try (refine st ?_; (repeat intro zzc)))))) | ((first | (refine iF 74 rfl ?_; refine w_callG Try.func74 ?_ (hs := wants_any _ (by omega) _ _ _)) | ((refine iDraw ?_; (first | refine WC.drawAll rfl (by decide +kernel) ?_ | refine WC.draw 1 rfl (by decide +kernel) ?_ | refine WC.draw 2 rfl (by decide +kernel) ?_ | refine WC.draw 3 rfl (by decide +kernel) ?_ | refine WC.draw 4 rfl (by decide +kernel) ?_ | refine WC.draw 5 rfl (by decide +kernel) ?_ | refine WC.draw 6 rfl (by decide +kernel) ?_ | refine WC.draw 7 rfl (by decide +kernel) ?_ | refine WC.draw 8 rfl (by decide +kernel) ?_ | refine WC.draw 9 rfl (by decide +kernel) ?_ | refine WC.draw 10 rfl (by decide +kernel) ?_ | refine WC.draw 11 rfl (by decide +kernel) ?_ | refine WC.draw 12 rfl (by decide +kernel) ?_ | refine WC.draw 13 rfl (by decide +kernel) ?_ | refine WC.draw 14 rfl (by decide +kernel) ?_ | refine WC.draw 15 rfl (by decide +kernel) ?_ | refine WC.draw 16 rfl (by decide +kernel) ?_ | refine WC.draw 17 rfl (by decide +kernel) ?_ | refine WC.draw 18 rfl (by decide +kernel) ?_ | refine WC.draw 19 rfl (by decide +kernel) ?_ | refine WC.draw 20 rfl (by decide +kernel) ?_ | refine WC.draw 21 rfl (by decide +kernel) ?_ | refine WC.draw 22 rfl (by decide +kernel) ?_ | refine WC.draw 23 rfl (by decide +kernel) ?_ | refine WC.draw 24 rfl (by decide +kernel) ?_)); (repeat (refine WD.cons rfl (fun c h => by cases h) sq_O8_1 ?_)); refine WD.nil ?_)); (try (refine st ?_; (repeat intro zzc))))); (repeat ((first | (refine iF 74 rfl ?_; refine w_callG Try.func74 ?_ (hs := wants_any _ (by omega) _ _ _)) | ((refine iDraw ?_; (first | refine WC.drawAll rfl (by decide +kernel) ?_ | refine WC.draw 1 rfl (by decide +kernel) ?_ | refine WC.draw 2 rfl (by decide +kernel) ?_ | refine WC.draw 3 rfl (by decide +kernel) ?_ | refine WC.draw 4 rfl (by decide +kernel) ?_ | refine WC.draw 5 rfl (by decide +kernel) ?_ | refine WC.draw 6 rfl (by decide +kernel) ?_ | refine WC.draw 7 rfl (by decide +kernel) ?_ | refine WC.draw 8 rfl (by decide +kernel) ?_ | refine WC.draw 9 rfl (by decide +kernel) ?_ | refine WC.draw 10 rfl (by decide +kernel) ?_ | refine WC.draw 11 rfl (by decide +kernel) ?_ | refine WC.draw 12 rfl (by decide +kernel) ?_ | refine WC.draw 13 rfl (by decide +kernel) ?_ | refine WC.draw 14 rfl (by decide +kernel) ?_ | refine WC.draw 15 rfl (by decide +kernel) ?_ | refine WC.draw 16 rfl (by decide +kernel) ?_ | refine WC.draw 17 rfl (by decide +kernel) ?_ | refine WC.draw 18 rfl (by decide +kernel) ?_ | refine WC.draw 19 rfl (by decide +kernel) ?_ | refine WC.draw 20 rfl (by decide +kernel) ?_ | refine WC.draw 21 rfl (by decide +kernel) ?_ | refine WC.draw 22 rfl (by decide +kernel) ?_ | refine WC.draw 23 rfl (by decide +kernel) ?_ | refine WC.draw 24 rfl (by decide +kernel) ?_)); (repeat (refine WD.cons rfl (fun c h => by cases h) sq_O8_1 ?_)); refine WD.nil ?_)); (try (refine st ?_; (repeat intro zzc))))); (repeat revert zzc); exact zzn.out) : G := h ⟨next⟩
theorem open_any {l : List UInt8} (hl : l.length ≤ 9223372036854775804) (w0 : World) (m : Mem) (H : SHeap) : Does Try.prog 46 #[str l] w0 m H (Gives (.int .i64 ((begunOf l).1 : Int)) m H) := by
  refine Does.of_body (args := [str l]) Try.func46 rfl Try.ntmps46 rfl ?_
  have hz := open_zero (l := l)
  by_cases h : (begunOf l).1 = 0
  · have h2 := hz.2 h
    (try (refine st_O8_1 ?_; intros))
    rw [h]
    exact q_fin0 (H0 := H) (Gives.mk rfl) (hd := zpk)
  · have h2 : ¬ (begunOf l).2 = 0 := fun e => h (hz.1 e)
    obtain ⟨h1, h3, hk, hge, hlt⟩ := open_at h
    generalize (begunOf l).1 = k at *
    (try (refine st_O8_1 ?_; intros))
    refine WC.loopH [(4, .int .i64 ((1) : Int)), (0, str l)] ?_ ?_ (fun j r ds m' H' => ∃ (n : Nat), j = k - n ∧ r = [(4, .int .i64 (n : Int)), (0, str l)] ∧ ds = [] ∧ m = m' ∧ H' = H ∧ (1 ≤ n ∧ n ≤ k)) (k - (1)) ⟨1, rfl, rfl, rfl, rfl, rfl, ⟨Nat.le_refl _, h1⟩⟩ ?_
    · (repeat (first | exact Env.Sub.nil | refine Env.Sub.cons rfl ?_))
    · exact zpk
    rintro j r ds m' H' ⟨n, rfl, rfl, rfl, rfl, rfl, hn⟩
    generalize H' = H
    by_cases hnk : n < k
    · have := hlt n hn.1 hnk
      (try (refine st_O8_1 ?_; intros))
      refine WQ.next (k - (n + 1)) ⟨n + 1, rfl, rfl, rfl, rfl, rfl, ?_⟩ (by omega) zsb zpk
      omega
    · obtain rfl : n = k := by omega
      (try (refine st_O8_1 ?_; intros))
      exact q_fin0 (H0 := H) (Gives.mk rfl) (hd := zpk)
end Go.Proofs.Ytljfncpecpkhhaa

