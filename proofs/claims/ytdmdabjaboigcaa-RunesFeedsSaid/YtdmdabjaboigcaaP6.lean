/-
  Parts of a walk, joined: R1 R2 R3 R4 R5 R6 R7 R9. No condition.
-/
import Derived.Test.YtdmdabjaboigcaaP5
import Derived.Test.YtdmdabjaboigcaaP1
import Derived.Test.YtdmdabjaboigcaaProg
import Derived.Test.YtdmdabjaboigcaaP3
/-
  The walks of package runes and of its reference, first part: a rune's width, the piece that is read at a place. No condition.
-/
namespace Go.Proofs.Ytdmdabjaboigcaa
open Go Go.Eng
set_option maxRecDepth 100000
set_option maxHeartbeats 4000000
set_option linter.all false
attribute [local irreducible] WL WC WQ QFun QLoop Does Q1 QRound QAssign Go.Addr.add
/-- runes.Width, of whatever number -/
def widthS (r : Int) : Int := if r ≠ 65533 ∧ fmb (rn r) = [239, 191, 189] then 0 else (wd (rn r) : Int)
theorem width_any (r : Int) (w0 : World) (m : Mem) (H : SHeap) : Does Try.prog 34 #[.int .i32 r] w0 m H (Gives (.int .i64 (widthS r)) m H) := by
  refine Does.of_body (args := [.int .i32 r]) Try.func34 rfl Try.ntmps34 rfl ?_
  (try (refine st ?_; intros))
  (first | refine c_ways (fun h1 => ?_) (fun h1 => ?_) | refine c_nways (fun h1 => ?_) (fun h1 => ?_) | refine w_gways (fun h1 => ?_) (fun h1 => ?_) | refine w_gnways (fun h1 => ?_) (fun h1 => ?_))
  · (try (refine st ?_; intros))
    (first | refine c_ways (fun h2 => ?_) (fun h2 => ?_) | refine c_nways (fun h2 => ?_) (fun h2 => ?_) | refine w_gways (fun h2 => ?_) (fun h2 => ?_) | refine w_gnways (fun h2 => ?_) (fun h2 => ?_))
    · (try (refine st ?_; intros))
      rw [encode_eq] at h2
      exact WQ.fin _ (res_tmp rfl rfl) (.mk (by rw [widthS, if_pos ⟨h1, h2⟩]))
    · (try (refine st ?_; intros))
      rw [encode_eq] at h2 ⊢
      exact WQ.fin _ (res_tmp rfl rfl) (.mk (by rw [widthS, if_neg (fun h => h2 h.2), fmb_length]))
  · (try (refine st ?_; intros))
    rw [encode_eq]
    exact WQ.fin _ (res_tmp rfl rfl) (.mk (by rw [widthS, if_neg (fun h => h.1 h1), fmb_length]))

theorem widthS_ok {c : Nat} (h : okr c) : widthS (c : Int) = (wd c : Int) := by
  unfold widthS
  rw [rn_nat h, if_neg]
  rintro ⟨h1, h2⟩
  apply h1
  have h3 : wd c = 3 := by rw [← fmb_length c, h2]; rfl
  have hc : ¬ c < 128 ∧ ¬ c < 2048 ∧ c < 65536 := by
    unfold wd at h3
    split at h3
    · cases h3
    · split at h3
      · cases h3
      · split at h3
        · omega
        · cases h3
  have h4 := nb_fmb c 0 (by omega) (by omega)
  have h5 := nb_fmb c 1 (by omega) (by omega)
  have h6 := nb_fmb c 2 (by omega) (by omega)
  rw [h2] at h4 h5 h6
  unfold fm at h4 h5 h6
  rw [if_neg hc.1, if_neg hc.2.1, if_pos hc.2.2] at h4 h5 h6
  simp [nb, gb] at h4 h5 h6
  omega
theorem fmb_lost : fmb 65533 = [239, 191, 189] := by decide
/-- what the text bears there is the form of U+FFFD just if it is decoded as one of three bytes -/
theorem lost_iff (l : List UInt8) (hl : 0 < l.length) (h : (dl l).1 = 65533) : (¬ l.length < 3 ∧ l.take 3 = [239, 191, 189]) ↔ ¬ dl l = (65533, 1) := by
  have hw : wd 65533 = 3 := by decide
  constructor
  · rintro ⟨h1, h2⟩ h3
    have := dl_of_begins (l := l) (c := 65533) (by right; decide) ((begins_iff l 65533 (by decide)).2 (by rw [hw, h2, fmb_lost]))
    rw [h3, hw] at this
    cases this
  · intro h3
    rcases dl_cases l hl with ⟨_, _, hb⟩ | ⟨he, _⟩
    · rw [h] at hb
      have := (begins_iff l 65533 (by decide)).1 hb
      rw [hw, fmb_lost] at this
      have hb1 := hb.1
      rw [hw] at hb1
      exact ⟨by omega, this⟩
    · exact absurd he h3
theorem readP_some {l : List UInt8} {k : Nat} (hk : k < l.length) (h : ¬ dl (l.drop k) = (65533, 1)) : okr (dl (l.drop k)).1 ∧ widthS ((dl (l.drop k)).1 : Int) = ((dl (l.drop k)).2 : Int) := by
  rcases dl_cases (l.drop k) (by simp; omega) with ⟨h1, h2, _⟩ | ⟨he, _⟩
  · exact ⟨h1, by rw [widthS_ok h1, h2]⟩
  · exact absurd he h

theorem take_drop_swap (l : List UInt8) (k j : Nat) : (l.take (k + j)).drop k = (l.drop k).take j := by
  rw [List.drop_take]; congr 1; omega
theorem read_any (l : List UInt8) (k : Nat) (hl : l.length ≤ 9223372036854775804) (hk : k < l.length) (w0 : World) (m : Mem) (H : SHeap) :
    Does Try.prog 67 #[str l, .int .i64 (k : Int)] w0 m H (Gives (readP l k).v m H) := by
  have hlen : (l.drop k).length = l.length - k := List.length_drop
  have hli := lost_iff (l.drop k) (by omega)
  have hso := fun h => (readP_some hk h).2
  rw [hlen] at hli
  refine Does.of_body (args := [str l, .int .i64 (k : Int)]) Try.func67 rfl Try.ntmps67 rfl ?_
  (try (refine st ?_; intros))
  apply WC.loop1
  (try (refine st ?_; intros))
  refine WL.rename 15 (u := .int .i32 ((dl (l.drop k)).1 : Int)) rfl rfl ?_
  refine WL.rename 6 (u := .int .i32 ((dl (l.drop k)).1 : Int)) rfl rfl ?_
  refine w_callF Try.func34 ?_ (hs := width_any _ _ _ _)
  rintro _ _ _ ⟨rfl, rfl, rfl⟩
  by_cases hA : dl (l.drop k) = (65533, 1)
  · have h1 : (dl (l.drop k)).1 = 65533 := by rw [hA]
    (try (refine st ?_; intros))
    (first | refine c_ways (fun h2 => ?_) (fun h2 => ?_) | refine c_nways (fun h2 => ?_) (fun h2 => ?_) | refine w_gways (fun h2 => ?_) (fun h2 => ?_) | refine w_gnways (fun h2 => ?_) (fun h2 => ?_))
    · (try (refine st ?_; intros))
      (refine q_fin0 ?_)
      refine Gives.mk ?_
      unfold readP; rw [if_pos hA]; rfl
    · (try (refine st ?_; intros))
      (first | refine c_ways (fun h3 => ?_) (fun h3 => ?_) | refine c_nways (fun h3 => ?_) (fun h3 => ?_) | refine w_gways (fun h3 => ?_) (fun h3 => ?_) | refine w_gnways (fun h3 => ?_) (fun h3 => ?_))
      · (try (refine st ?_; intros))
        (refine q_fin0 ?_)
        refine Gives.mk ?_
        unfold readP; rw [if_pos hA]; rfl
      · exfalso
        rw [take_drop_swap] at h3
        exact (hli h1).1 ⟨by omega, h3⟩ hA
  · have hw := hso hA
    (try (refine st ?_; intros))
    (first | refine c_ways (fun h2 => ?_) (fun h2 => ?_) | refine c_nways (fun h2 => ?_) (fun h2 => ?_) | refine w_gways (fun h2 => ?_) (fun h2 => ?_) | refine w_gnways (fun h2 => ?_) (fun h2 => ?_))
    · have h1 : (dl (l.drop k)).1 = 65533 := by omega
      obtain ⟨h4, h5⟩ := (hli h1).2 hA
      (try (refine st ?_; intros))
      (first | refine c_ways (fun h3 => ?_) (fun h3 => ?_) | refine c_nways (fun h3 => ?_) (fun h3 => ?_) | refine w_gways (fun h3 => ?_) (fun h3 => ?_) | refine w_gnways (fun h3 => ?_) (fun h3 => ?_))
      · exfalso
        rw [take_drop_swap] at h3
        exact h3 h5
      · (try (refine st ?_; intros))
        (refine q_fin0 ?_)
        refine Gives.mk ?_
        unfold readP; rw [if_neg hA, hw]; rfl
    · (try (refine st ?_; intros))
      (refine q_fin0 ?_)
      refine Gives.mk ?_
      unfold readP; rw [if_neg hA, hw]; rfl
end Go.Proofs.Ytdmdabjaboigcaa

/-
  The walks of package runes and of its reference, second part: the pieces of a text, by range. No condition.
-/
namespace Go.Proofs.Ytdmdabjaboigcaa
open Go Go.Eng
set_option maxRecDepth 100000
set_option maxHeartbeats 4000000
set_option linter.all false
attribute [local irreducible] WL WC WQ QFun QLoop Does Q1 QRound QAssign Go.Addr.add
/-- what a text's iterator leans on: its text in a cell that stays -/
def TextAt (b : Nat) (l : List UInt8) (m : Mem) : Prop := m b = some (.cells [str l].toArray 9 (0, 0))
/-- an iterator's value: made anew, over a text of its own -/
def IterOf (f : Nat) (l : List UInt8) (m : Mem) (H : SHeap) : Value → Mem → SHeap → Prop := fun v m' H' =>
  ∃ b, v = .func (.func f) #[] #[.pointer (some ⟨b, 0, none⟩)] ∧ m' = m ∧ H' = .blk b (.cells [str l].toArray 9 (0, 0)) :: H
theorem pieces_any (l : List UInt8) (w0 : World) (m : Mem) (H : SHeap) : Does Try.prog 38 #[str l] w0 m H (IterOf 74 l m H) := by
  refine Does.of_body (args := [str l]) Try.func38 rfl Try.ntmps38 rfl ?_
  (try (refine st ?_; intros))
  apply WQ.fin
  · (first | (apply res_tmp; (· exact rfl); (· exact rfl)) | (apply res_cell; (· exact rfl); (· exact rfl); (· (first | (apply Loads.one; (· exact rfl); (· first | (apply Cell.blk; (· (repeat (first | exact List.Mem.head _ | apply List.Mem.tail))); (· exact rfl)) | (apply Cell.mem; (· assumption); (· exact rfl)))) | (apply Loads.whole; (· exact rfl); (· exact rfl); (· (repeat (first | exact List.Mem.head _ | apply List.Mem.tail))); (· exact rfl)) | (apply Loads.blk; (· exact rfl); (· exact rfl); (· (repeat (first | exact List.Mem.head _ | apply List.Mem.tail))); (· (repeat (first | exact Seg.nil | (apply Seg.cons; (· exact rfl)))))) | (apply Loads.row; (· (repeat (first | exact List.Mem.head _ | apply List.Mem.tail))); (first | (rotate_left; (· exact rfl); rotate_right; (· assumption)) | ((· assumption); (· exact rfl))); (· exact rfl); (· exact rfl); (· exact rfl)) | (apply Loads.row1; (· (repeat (first | exact List.Mem.head _ | apply List.Mem.tail))); (first | (rotate_left; (· exact rfl); rotate_right; (· assumption)) | ((· assumption); (· exact rfl))); (· exact rfl)) | (apply Loads.rowF; (· (repeat (first | exact List.Mem.head _ | apply List.Mem.tail))); (first | (rotate_left; (· exact rfl); rotate_right; (· assumption)) | ((· assumption); (· exact rfl))); (· exact rfl); (· exact rfl)) | (apply Loads.prow; (· assumption); (first | (rotate_left; (· exact rfl); rotate_right; (· assumption)) | ((· assumption); (· exact rfl))); (· exact rfl); (· exact rfl); (· exact rfl)) | (apply Loads.prow1; (· assumption); (first | (rotate_left; (· exact rfl); rotate_right; (· assumption)) | ((· assumption); (· exact rfl))); (· exact rfl)) | (apply Loads.prowF; (· assumption); (first | (rotate_left; (· exact rfl); rotate_right; (· assumption)) | ((· assumption); (· exact rfl))); (· exact rfl); (· exact rfl)) | (apply Loads.rrow; (· assumption); (first | (rotate_left; (· exact rfl); rotate_right; (· assumption)) | ((· assumption); (· exact rfl))); (· exact rfl); (· exact rfl); (· exact rfl)) | (apply Loads.rrow1; (· assumption); (first | (rotate_left; (· exact rfl); rotate_right; (· assumption)) | ((· assumption); (· exact rfl))); (· exact rfl)) | (apply Loads.rrowF; (· assumption); (first | (rotate_left; (· exact rfl); rotate_right; (· assumption)) | ((· assumption); (· exact rfl))); (· exact rfl); (· exact rfl)) | (apply Loads.rowS; (· (repeat (first | exact List.Mem.head _ | apply List.Mem.tail))); (first | (rotate_left; (· exact rfl); rotate_right; (· assumption)) | ((· assumption); (· exact rfl))); (· exact rfl); (· exact rfl); (· (repeat (first | exact Seg.nil | (apply Seg.cons; (· exact rfl))))))))) | (apply res_none; exact rfl) | (apply res_many; (· exact rfl); (· repeat (first | exact ResAll.nil | (apply ResAll.tmp; (· exact rfl)) | (apply ResAll.cell; (· exact rfl); (· (first | (apply Loads.one; (· exact rfl); (· first | (apply Cell.blk; (· (repeat (first | exact List.Mem.head _ | apply List.Mem.tail))); (· exact rfl)) | (apply Cell.mem; (· assumption); (· exact rfl)))) | (apply Loads.whole; (· exact rfl); (· exact rfl); (· (repeat (first | exact List.Mem.head _ | apply List.Mem.tail))); (· exact rfl)) | (apply Loads.blk; (· exact rfl); (· exact rfl); (· (repeat (first | exact List.Mem.head _ | apply List.Mem.tail))); (· (repeat (first | exact Seg.nil | (apply Seg.cons; (· exact rfl)))))) | (apply Loads.row; (· (repeat (first | exact List.Mem.head _ | apply List.Mem.tail))); (first | (rotate_left; (· exact rfl); rotate_right; (· assumption)) | ((· assumption); (· exact rfl))); (· exact rfl); (· exact rfl); (· exact rfl)) | (apply Loads.row1; (· (repeat (first | exact List.Mem.head _ | apply List.Mem.tail))); (first | (rotate_left; (· exact rfl); rotate_right; (· assumption)) | ((· assumption); (· exact rfl))); (· exact rfl)) | (apply Loads.rowF; (· (repeat (first | exact List.Mem.head _ | apply List.Mem.tail))); (first | (rotate_left; (· exact rfl); rotate_right; (· assumption)) | ((· assumption); (· exact rfl))); (· exact rfl); (· exact rfl)) | (apply Loads.prow; (· assumption); (first | (rotate_left; (· exact rfl); rotate_right; (· assumption)) | ((· assumption); (· exact rfl))); (· exact rfl); (· exact rfl); (· exact rfl)) | (apply Loads.prow1; (· assumption); (first | (rotate_left; (· exact rfl); rotate_right; (· assumption)) | ((· assumption); (· exact rfl))); (· exact rfl)) | (apply Loads.prowF; (· assumption); (first | (rotate_left; (· exact rfl); rotate_right; (· assumption)) | ((· assumption); (· exact rfl))); (· exact rfl); (· exact rfl)) | (apply Loads.rrow; (· assumption); (first | (rotate_left; (· exact rfl); rotate_right; (· assumption)) | ((· assumption); (· exact rfl))); (· exact rfl); (· exact rfl); (· exact rfl)) | (apply Loads.rrow1; (· assumption); (first | (rotate_left; (· exact rfl); rotate_right; (· assumption)) | ((· assumption); (· exact rfl))); (· exact rfl)) | (apply Loads.rrowF; (· assumption); (first | (rotate_left; (· exact rfl); rotate_right; (· assumption)) | ((· assumption); (· exact rfl))); (· exact rfl); (· exact rfl)) | (apply Loads.rowS; (· (repeat (first | exact List.Mem.head _ | apply List.Mem.tail))); (first | (rotate_left; (· exact rfl); rotate_right; (· assumption)) | ((· assumption); (· exact rfl))); (· exact rfl); (· exact rfl); (· (repeat (first | exact Seg.nil | (apply Seg.cons; (· exact rfl))))))))))); (· exact rfl)))
  · exact ⟨_, rfl, rfl, rfl⟩
theorem back_any (l : List UInt8) (w0 : World) (m : Mem) (H : SHeap) : Does Try.prog 39 #[str l] w0 m H (IterOf 75 l m H) := by
  refine Does.of_body (args := [str l]) Try.func39 rfl Try.ntmps39 rfl ?_
  (try (refine st ?_; intros))
  apply WQ.fin
  · (first | (apply res_tmp; (· exact rfl); (· exact rfl)) | (apply res_cell; (· exact rfl); (· exact rfl); (· (first | (apply Loads.one; (· exact rfl); (· first | (apply Cell.blk; (· (repeat (first | exact List.Mem.head _ | apply List.Mem.tail))); (· exact rfl)) | (apply Cell.mem; (· assumption); (· exact rfl)))) | (apply Loads.whole; (· exact rfl); (· exact rfl); (· (repeat (first | exact List.Mem.head _ | apply List.Mem.tail))); (· exact rfl)) | (apply Loads.blk; (· exact rfl); (· exact rfl); (· (repeat (first | exact List.Mem.head _ | apply List.Mem.tail))); (· (repeat (first | exact Seg.nil | (apply Seg.cons; (· exact rfl)))))) | (apply Loads.row; (· (repeat (first | exact List.Mem.head _ | apply List.Mem.tail))); (first | (rotate_left; (· exact rfl); rotate_right; (· assumption)) | ((· assumption); (· exact rfl))); (· exact rfl); (· exact rfl); (· exact rfl)) | (apply Loads.row1; (· (repeat (first | exact List.Mem.head _ | apply List.Mem.tail))); (first | (rotate_left; (· exact rfl); rotate_right; (· assumption)) | ((· assumption); (· exact rfl))); (· exact rfl)) | (apply Loads.rowF; (· (repeat (first | exact List.Mem.head _ | apply List.Mem.tail))); (first | (rotate_left; (· exact rfl); rotate_right; (· assumption)) | ((· assumption); (· exact rfl))); (· exact rfl); (· exact rfl)) | (apply Loads.prow; (· assumption); (first | (rotate_left; (· exact rfl); rotate_right; (· assumption)) | ((· assumption); (· exact rfl))); (· exact rfl); (· exact rfl); (· exact rfl)) | (apply Loads.prow1; (· assumption); (first | (rotate_left; (· exact rfl); rotate_right; (· assumption)) | ((· assumption); (· exact rfl))); (· exact rfl)) | (apply Loads.prowF; (· assumption); (first | (rotate_left; (· exact rfl); rotate_right; (· assumption)) | ((· assumption); (· exact rfl))); (· exact rfl); (· exact rfl)) | (apply Loads.rrow; (· assumption); (first | (rotate_left; (· exact rfl); rotate_right; (· assumption)) | ((· assumption); (· exact rfl))); (· exact rfl); (· exact rfl); (· exact rfl)) | (apply Loads.rrow1; (· assumption); (first | (rotate_left; (· exact rfl); rotate_right; (· assumption)) | ((· assumption); (· exact rfl))); (· exact rfl)) | (apply Loads.rrowF; (· assumption); (first | (rotate_left; (· exact rfl); rotate_right; (· assumption)) | ((· assumption); (· exact rfl))); (· exact rfl); (· exact rfl)) | (apply Loads.rowS; (· (repeat (first | exact List.Mem.head _ | apply List.Mem.tail))); (first | (rotate_left; (· exact rfl); rotate_right; (· assumption)) | ((· assumption); (· exact rfl))); (· exact rfl); (· exact rfl); (· (repeat (first | exact Seg.nil | (apply Seg.cons; (· exact rfl))))))))) | (apply res_none; exact rfl) | (apply res_many; (· exact rfl); (· repeat (first | exact ResAll.nil | (apply ResAll.tmp; (· exact rfl)) | (apply ResAll.cell; (· exact rfl); (· (first | (apply Loads.one; (· exact rfl); (· first | (apply Cell.blk; (· (repeat (first | exact List.Mem.head _ | apply List.Mem.tail))); (· exact rfl)) | (apply Cell.mem; (· assumption); (· exact rfl)))) | (apply Loads.whole; (· exact rfl); (· exact rfl); (· (repeat (first | exact List.Mem.head _ | apply List.Mem.tail))); (· exact rfl)) | (apply Loads.blk; (· exact rfl); (· exact rfl); (· (repeat (first | exact List.Mem.head _ | apply List.Mem.tail))); (· (repeat (first | exact Seg.nil | (apply Seg.cons; (· exact rfl)))))) | (apply Loads.row; (· (repeat (first | exact List.Mem.head _ | apply List.Mem.tail))); (first | (rotate_left; (· exact rfl); rotate_right; (· assumption)) | ((· assumption); (· exact rfl))); (· exact rfl); (· exact rfl); (· exact rfl)) | (apply Loads.row1; (· (repeat (first | exact List.Mem.head _ | apply List.Mem.tail))); (first | (rotate_left; (· exact rfl); rotate_right; (· assumption)) | ((· assumption); (· exact rfl))); (· exact rfl)) | (apply Loads.rowF; (· (repeat (first | exact List.Mem.head _ | apply List.Mem.tail))); (first | (rotate_left; (· exact rfl); rotate_right; (· assumption)) | ((· assumption); (· exact rfl))); (· exact rfl); (· exact rfl)) | (apply Loads.prow; (· assumption); (first | (rotate_left; (· exact rfl); rotate_right; (· assumption)) | ((· assumption); (· exact rfl))); (· exact rfl); (· exact rfl); (· exact rfl)) | (apply Loads.prow1; (· assumption); (first | (rotate_left; (· exact rfl); rotate_right; (· assumption)) | ((· assumption); (· exact rfl))); (· exact rfl)) | (apply Loads.prowF; (· assumption); (first | (rotate_left; (· exact rfl); rotate_right; (· assumption)) | ((· assumption); (· exact rfl))); (· exact rfl); (· exact rfl)) | (apply Loads.rrow; (· assumption); (first | (rotate_left; (· exact rfl); rotate_right; (· assumption)) | ((· assumption); (· exact rfl))); (· exact rfl); (· exact rfl); (· exact rfl)) | (apply Loads.rrow1; (· assumption); (first | (rotate_left; (· exact rfl); rotate_right; (· assumption)) | ((· assumption); (· exact rfl))); (· exact rfl)) | (apply Loads.rrowF; (· assumption); (first | (rotate_left; (· exact rfl); rotate_right; (· assumption)) | ((· assumption); (· exact rfl))); (· exact rfl); (· exact rfl)) | (apply Loads.rowS; (· (repeat (first | exact List.Mem.head _ | apply List.Mem.tail))); (first | (rotate_left; (· exact rfl); rotate_right; (· assumption)) | ((· assumption); (· exact rfl))); (· exact rfl); (· exact rfl); (· (repeat (first | exact Seg.nil | (apply Seg.cons; (· exact rfl))))))))))); (· exact rfl)))
  · exact ⟨_, rfl, rfl, rfl⟩
theorem pieces_seq (l : List UInt8) (hl : l.length ≤ 9223372036854775804) (b : Nat) : SeqC Try.prog 74 [.pointer (some ⟨b, 0, none⟩)] (fun p : Pc => [p.v]) (pieces l) (TextAt b l) := by
  intro w0 lp J Jx m H hcap h0 hY
  have hcap' : m b = some (.cells [str l].toArray 9 (0, 0)) := hcap
  refine Does.of_body Try.func74 rfl Try.ntmps74 rfl ?_
  (try (refine st ?_; intros))
  refine WC.loopW [(5, _), (0, .func (.yield lp) #[] #[]), (1, .pointer (some ⟨b, 0, none⟩))] ?_ (fun j r ds m' H' => ∃ k pre H1 it, j = l.length - k ∧ r = [(5, .pointer (some ⟨it, 0, none⟩)), (0, .func (.yield lp) #[] #[]), (1, .pointer (some ⟨b, 0, none⟩))] ∧ ds = [] ∧ H' = .blk it (.stringIter ⟨l.toArray⟩ k) :: H1 ∧ m.le m' ∧ pieces l = pre ++ from_ l k ∧ J pre m' H1) l.length ⟨0, [], H, _, rfl, rfl, rfl, rfl, Mem.le.refl _, rfl, h0⟩ ?_
  · (repeat (first | exact Env.Sub.nil | refine Env.Sub.cons rfl ?_))
  rintro j r ds m1 H1 ⟨k, pre, H1, it, rfl, rfl, rfl, rfl, hle, hp, hJ⟩
  have hcap1 := hle _ _ hcap'
  by_cases hk : k < l.length
  · have hw := readP_w hk
    rw [from_cons hk] at hp
    (try (refine st ?_; intros))
    refine w_callF Try.func67 ?_ (hs := read_any l k hl hk _ _ _)
    rintro _ _ _ ⟨rfl, rfl, rfl⟩
    (try (refine st ?_; intros))
    rw [readP_w_eq] at hp hw
    apply WL.yield
    · exact rfl
    · exact rfl
    · exact rfl
    · exact hY pre (readP l k) _ hp _ H1 [_] hJ hle
    · rintro m2 _ ⟨H2, rfl, hJ2, hle2⟩
      (try (refine st ?_; intros))
      refine WQ.next (l.length - (k + (dl (l.drop k)).2)) ⟨_, pre ++ [readP l k], H2, it, rfl, rfl, rfl, rfl, hle.trans hle2, by rw [hp]; simp, hJ2⟩ (by omega) (by (repeat (first | exact Env.Sub.nil | refine Env.Sub.cons rfl ?_))) (fun w h => h)
    · rintro m2 _ ⟨H2, rfl, hJ2, hle2⟩
      (try (refine st ?_; intros))
      (refine q_fin0 ?_)
      exact ⟨hle.trans hle2, .inr ⟨pre ++ [readP l k], ⟨from_ l (k + (dl (l.drop k)).2), by rw [hp]; simp⟩, hJ2⟩⟩
  · rw [from_nil hk, List.append_nil] at hp
    (try (refine st ?_; intros))
    apply WQ.finNorm
    · (first | (apply res_tmp; (· exact rfl); (· exact rfl)) | (apply res_cell; (· exact rfl); (· exact rfl); (· (first | (apply Loads.one; (· exact rfl); (· first | (apply Cell.blk; (· (repeat (first | exact List.Mem.head _ | apply List.Mem.tail))); (· exact rfl)) | (apply Cell.mem; (· assumption); (· exact rfl)))) | (apply Loads.whole; (· exact rfl); (· exact rfl); (· (repeat (first | exact List.Mem.head _ | apply List.Mem.tail))); (· exact rfl)) | (apply Loads.blk; (· exact rfl); (· exact rfl); (· (repeat (first | exact List.Mem.head _ | apply List.Mem.tail))); (· (repeat (first | exact Seg.nil | (apply Seg.cons; (· exact rfl)))))) | (apply Loads.row; (· (repeat (first | exact List.Mem.head _ | apply List.Mem.tail))); (first | (rotate_left; (· exact rfl); rotate_right; (· assumption)) | ((· assumption); (· exact rfl))); (· exact rfl); (· exact rfl); (· exact rfl)) | (apply Loads.row1; (· (repeat (first | exact List.Mem.head _ | apply List.Mem.tail))); (first | (rotate_left; (· exact rfl); rotate_right; (· assumption)) | ((· assumption); (· exact rfl))); (· exact rfl)) | (apply Loads.rowF; (· (repeat (first | exact List.Mem.head _ | apply List.Mem.tail))); (first | (rotate_left; (· exact rfl); rotate_right; (· assumption)) | ((· assumption); (· exact rfl))); (· exact rfl); (· exact rfl)) | (apply Loads.prow; (· assumption); (first | (rotate_left; (· exact rfl); rotate_right; (· assumption)) | ((· assumption); (· exact rfl))); (· exact rfl); (· exact rfl); (· exact rfl)) | (apply Loads.prow1; (· assumption); (first | (rotate_left; (· exact rfl); rotate_right; (· assumption)) | ((· assumption); (· exact rfl))); (· exact rfl)) | (apply Loads.prowF; (· assumption); (first | (rotate_left; (· exact rfl); rotate_right; (· assumption)) | ((· assumption); (· exact rfl))); (· exact rfl); (· exact rfl)) | (apply Loads.rrow; (· assumption); (first | (rotate_left; (· exact rfl); rotate_right; (· assumption)) | ((· assumption); (· exact rfl))); (· exact rfl); (· exact rfl); (· exact rfl)) | (apply Loads.rrow1; (· assumption); (first | (rotate_left; (· exact rfl); rotate_right; (· assumption)) | ((· assumption); (· exact rfl))); (· exact rfl)) | (apply Loads.rrowF; (· assumption); (first | (rotate_left; (· exact rfl); rotate_right; (· assumption)) | ((· assumption); (· exact rfl))); (· exact rfl); (· exact rfl)) | (apply Loads.rowS; (· (repeat (first | exact List.Mem.head _ | apply List.Mem.tail))); (first | (rotate_left; (· exact rfl); rotate_right; (· assumption)) | ((· assumption); (· exact rfl))); (· exact rfl); (· exact rfl); (· (repeat (first | exact Seg.nil | (apply Seg.cons; (· exact rfl))))))))) | (apply res_none; exact rfl) | (apply res_many; (· exact rfl); (· repeat (first | exact ResAll.nil | (apply ResAll.tmp; (· exact rfl)) | (apply ResAll.cell; (· exact rfl); (· (first | (apply Loads.one; (· exact rfl); (· first | (apply Cell.blk; (· (repeat (first | exact List.Mem.head _ | apply List.Mem.tail))); (· exact rfl)) | (apply Cell.mem; (· assumption); (· exact rfl)))) | (apply Loads.whole; (· exact rfl); (· exact rfl); (· (repeat (first | exact List.Mem.head _ | apply List.Mem.tail))); (· exact rfl)) | (apply Loads.blk; (· exact rfl); (· exact rfl); (· (repeat (first | exact List.Mem.head _ | apply List.Mem.tail))); (· (repeat (first | exact Seg.nil | (apply Seg.cons; (· exact rfl)))))) | (apply Loads.row; (· (repeat (first | exact List.Mem.head _ | apply List.Mem.tail))); (first | (rotate_left; (· exact rfl); rotate_right; (· assumption)) | ((· assumption); (· exact rfl))); (· exact rfl); (· exact rfl); (· exact rfl)) | (apply Loads.row1; (· (repeat (first | exact List.Mem.head _ | apply List.Mem.tail))); (first | (rotate_left; (· exact rfl); rotate_right; (· assumption)) | ((· assumption); (· exact rfl))); (· exact rfl)) | (apply Loads.rowF; (· (repeat (first | exact List.Mem.head _ | apply List.Mem.tail))); (first | (rotate_left; (· exact rfl); rotate_right; (· assumption)) | ((· assumption); (· exact rfl))); (· exact rfl); (· exact rfl)) | (apply Loads.prow; (· assumption); (first | (rotate_left; (· exact rfl); rotate_right; (· assumption)) | ((· assumption); (· exact rfl))); (· exact rfl); (· exact rfl); (· exact rfl)) | (apply Loads.prow1; (· assumption); (first | (rotate_left; (· exact rfl); rotate_right; (· assumption)) | ((· assumption); (· exact rfl))); (· exact rfl)) | (apply Loads.prowF; (· assumption); (first | (rotate_left; (· exact rfl); rotate_right; (· assumption)) | ((· assumption); (· exact rfl))); (· exact rfl); (· exact rfl)) | (apply Loads.rrow; (· assumption); (first | (rotate_left; (· exact rfl); rotate_right; (· assumption)) | ((· assumption); (· exact rfl))); (· exact rfl); (· exact rfl); (· exact rfl)) | (apply Loads.rrow1; (· assumption); (first | (rotate_left; (· exact rfl); rotate_right; (· assumption)) | ((· assumption); (· exact rfl))); (· exact rfl)) | (apply Loads.rrowF; (· assumption); (first | (rotate_left; (· exact rfl); rotate_right; (· assumption)) | ((· assumption); (· exact rfl))); (· exact rfl); (· exact rfl)) | (apply Loads.rowS; (· (repeat (first | exact List.Mem.head _ | apply List.Mem.tail))); (first | (rotate_left; (· exact rfl); rotate_right; (· assumption)) | ((· assumption); (· exact rfl))); (· exact rfl); (· exact rfl); (· (repeat (first | exact Seg.nil | (apply Seg.cons; (· exact rfl))))))))))); (· exact rfl)))
    · exact ⟨hle, .inl (by rw [hp]; exact hJ)⟩
end Go.Proofs.Ytdmdabjaboigcaa

/-
  The walks of package runes and of its reference, third part: the reference's numbers and forms. No condition.
-/
namespace Go.Proofs.Ytdmdabjaboigcaa
open Go Go.Eng
set_option maxRecDepth 100000
set_option maxHeartbeats 4000000
set_option linter.all false
attribute [local irreducible] WL WC WQ QFun QLoop Does Q1 QRound QAssign Go.Addr.add
theorem valid_split (r : Int) : Utf8.valid r = true ↔ (0 ≤ r ∧ r ≤ 1114111) ∧ ¬ (55296 ≤ r ∧ r ≤ 57343) := by
  rw [valid_iff]; unfold okr; omega
theorem none_any (r : Int) (w0 : World) (m : Mem) (H : SHeap) : Does Try.prog 72 #[.int .i32 r] w0 m H (Gives (.bool (dcd (Utf8.valid r = false))) m H) := by
  have hv := valid_split r
  have hf : (Utf8.valid r = false) ↔ ¬ ((0 ≤ r ∧ r ≤ 1114111) ∧ ¬ (55296 ≤ r ∧ r ≤ 57343)) := by rw [← hv]; simp
  refine Does.of_body (args := [.int .i32 r]) Try.func72 rfl Try.ntmps72 rfl ?_
  (repeat' (first | (refine st ?_; intros) | (first | refine c_ways (fun h1 => ?_) (fun h1 => ?_) | refine c_nways (fun h1 => ?_) (fun h1 => ?_) | refine w_gways (fun h1 => ?_) (fun h1 => ?_) | refine w_gnways (fun h1 => ?_) (fun h1 => ?_))))
  all_goals ((refine q_fin0 ?_); refine Gives.mk ?_; first | exact vb_t (hf.2 (by omega)) | exact vb_f (fun h => absurd (hf.1 h) (by omega)) | exact vb_iff (by rw [hf]; omega))
/-- the reference's Width -/
def rwd (r : Int) : Nat := if Utf8.valid r = false then 0 else wd r.toNat
theorem rwidth_any (r : Int) (w0 : World) (m : Mem) (H : SHeap) : Does Try.prog 35 #[.int .i32 r] w0 m H (Gives (.int .i64 (rwd r : Int)) m H) := by
  have hv := valid_split r
  refine Does.of_body (args := [.int .i32 r]) Try.func35 rfl Try.ntmps35 rfl ?_
  (try (refine st ?_; intros))
  refine w_callF Try.func72 ?_ (hs := none_any _ _ _ _)
  rintro _ _ _ ⟨rfl, rfl, rfl⟩
  (repeat' (first | (refine st ?_; intros) | (first | refine c_ways (fun h1 => ?_) (fun h1 => ?_) | refine c_nways (fun h1 => ?_) (fun h1 => ?_) | refine w_gways (fun h1 => ?_) (fun h1 => ?_) | refine w_gnways (fun h1 => ?_) (fun h1 => ?_))))
  all_goals ((refine q_fin0 ?_); refine Gives.mk ?_; unfold rwd wd)
  · rw [if_pos h1]; rfl
  all_goals (have := hv.1 (by simpa using ‹¬ Utf8.valid r = false›); rw [if_neg ‹¬ Utf8.valid r = false›]; refine vi ?_; repeat' split)
  all_goals omega
theorem rwd_okr {c : Nat} (h : okr c) : rwd (c : Int) = wd c := by
  unfold rwd; rw [if_neg (by rw [(valid_nat c).2 h]; simp), Int.toNat_natCast]
/-- the code point that stands for a number -/
theorem rn_cases (r : Int) : (Utf8.valid r = false ∧ rn r = 65533) ∨ (Utf8.valid r = true ∧ r = (rn r : Int)) := by
  unfold rn
  cases h : Utf8.valid r with
  | false => exact .inl ⟨rfl, rfl⟩
  | true => have := ((valid_iff r).1 h).1; exact .inr ⟨rfl, by simp; omega⟩
def byV (x : Nat) : List Value := [.int .u8 (x : Int)]
theorem bytes_fm {c : Nat} (hc : c ≤ 1114111) : ((fmb c).map fun b => [Value.int .u8 (b.toNat : Int)]) = (fm c).map byV := by
  unfold fmb
  rw [List.map_map]
  apply List.map_congr_left
  intro x hx
  have : x < 256 := by
    unfold fm at hx
    split at hx
    · simp at hx; omega
    · split at hx
      · simp at hx; omega
      · split at hx
        · simp at hx; omega
        · simp at hx; omega
  simp [byV]; omega
theorem fm_get {c i : Nat} (h1 : 1 ≤ i) (h2 : i < wd c) : (fm c).drop i = (128 + c / 64 ^ (wd c - 1 - i) % 64) :: (fm c).drop (i + 1) := by
  unfold wd at h2 ⊢
  unfold fm
  split at h2 <;> rename_i h3
  · omega
  · rw [if_neg h3]
    split at h2 <;> rename_i h4
    · rw [if_pos h4, if_neg h3, if_pos h4]
      have : i = 1 := by omega
      subst this; simp
    · rw [if_neg h4]
      split at h2 <;> rename_i h5
      · rw [if_pos h5, if_neg h3, if_neg h4, if_pos h5]
        obtain rfl | rfl : i = 1 ∨ i = 2 := by omega
        · simp
        · simp
      · rw [if_neg h5, if_neg h3, if_neg h4, if_neg h5]
        obtain rfl | rfl | rfl : i = 1 ∨ i = 2 ∨ i = 3 := by omega
        · simp
        · simp
        · simp
theorem fm_head (c : Nat) (h : 2 ≤ wd c) : fm c = (256 - 2 ^ (8 - wd c) + c / 64 ^ (wd c - 1)) :: (fm c).drop 1 := by
  unfold wd at h ⊢
  unfold fm
  split at h <;> rename_i h3
  · omega
  · rw [if_neg h3]
    split at h <;> rename_i h4
    · rw [if_pos h4, if_neg h3, if_pos h4]; simp
    · rw [if_neg h4]
      split at h <;> rename_i h5
      · rw [if_pos h5, if_neg h3, if_neg h4, if_pos h5]; simp
      · rw [if_neg h5, if_neg h3, if_neg h4, if_neg h5]; simp
def encA (c i : Nat) : List (List Value) := List.replicate (i + 1) (byV 0) ++ ((fm c).drop (i + 1)).map byV
theorem encA_set {c i : Nat} (h1 : 1 ≤ i) (h2 : i < wd c) : (encA c i).set i (byV (128 + c / 64 ^ (wd c - 1 - i) % 64)) = encA c (i - 1) := by
  unfold encA
  rw [show i - 1 + 1 = i by omega, fm_get h1 h2, List.replicate_succ', List.append_assoc, List.set_append_right _ _ (by simp)]
  simp
theorem enc_head {c : Nat} (hc : c ≤ 1114111) (h : 2 ≤ wd c) : ∃ p, 2 ^ (8 - wd c) = p ∧ c / 64 ^ (wd c - 1) < p ∧ p ≤ 64 := by
  refine ⟨_, rfl, ?_⟩
  unfold wd at h ⊢
  split at h <;> rename_i h3
  · omega
  · rw [if_neg h3]
    split at h <;> rename_i h4
    · rw [if_pos h4]; simp; omega
    · rw [if_neg h4]
      split at h <;> rename_i h5
      · rw [if_pos h5]; simp; omega
      · rw [if_neg h5]; simp; omega
theorem encA_length (c i : Nat) (h : i < wd c) : (encA c i).length = wd c := by
  have := fm_length c
  simp [encA]; omega
theorem rencode_any (r : Int) (w0 : World) (m : Mem) (H : SHeap) : Does Try.prog 37 #[.int .i32 r] w0 m H (Gives (str (fmb (rn r))) m H) := by
  have hok := rn_ok r
  refine Does.of_body (args := [.int .i32 r]) Try.func37 rfl Try.ntmps37 rfl ?_
  (try (refine st ?_; intros))
  refine w_callF Try.func72 ?_ (hs := none_any _ _ _ _)
  rintro _ m H ⟨rfl, rfl, rfl⟩
  (try (refine st ?_; intros))
  refine WC.join (fun r' ds' m' H' => r' = [(0, .int .i32 (rn r : Int)), (2, str [])] ∧ ds' = [] ∧ m' = m ∧ H' = H) ?_ ?_
  · rcases rn_cases r with ⟨hf, hr⟩ | ⟨hf, hr⟩
    · refine WC.rename 7 (u := .bool true) rfl (by rw [dcd_true hf]) ?_
      (try (refine st ?_; intros))
      exact WQ.join ⟨rfl, rfl, rfl, rfl⟩ (Env.Sub.cons (by rw [hr]; rfl) (Env.Sub.cons rfl .nil)) (fun w h => h)
    · refine WC.rename 7 (u := .bool false) rfl (by rw [dcd_false (by rw [hf]; simp)]) ?_
      (try (refine st ?_; intros))
      exact WQ.join ⟨rfl, rfl, rfl, rfl⟩ (Env.Sub.cons (by rw [← hr]; rfl) (Env.Sub.cons rfl .nil)) (fun w h => h)
  rintro _ _ _ _ ⟨rfl, rfl, rfl, rfl⟩
  generalize rn r = c at hok ⊢
  have hc := okr_le hok
  have hw := wd_pos c
  (try (refine st ?_; intros))
  refine w_callF Try.func35 ?_ (hs := rwidth_any _ _ _ _)
  rw [rwd_okr hok]
  rintro _ m H ⟨rfl, rfl, rfl⟩
  (try (refine st ?_; intros))
  (first | refine c_ways (fun h1 => ?_) (fun h1 => ?_) | refine c_nways (fun h1 => ?_) (fun h1 => ?_) | refine w_gways (fun h1 => ?_) (fun h1 => ?_) | refine w_gnways (fun h1 => ?_) (fun h1 => ?_))
  · have h2 : c < 128 := by unfold wd at h1; split at h1 <;> (try split at h1) <;> (try split at h1) <;> omega
    (try (refine st ?_; intros))
    apply WL.blkStr (s := fmb c)
    · exact rfl
    · (repeat (first | exact List.Mem.head _ | apply List.Mem.tail))
    · rw [show fmb c = [UInt8.ofNat c] by unfold fmb fm; rw [if_pos h2]; rfl]
      simp; omega
    · rw [fmb_length]; omega
    · exact rfl
    · exact rfl
    · exact rfl
    · exact rfl
    · exact rfl
    (try (refine st ?_; intros))
    (refine q_fin0 ?_)
    exact Gives.mk rfl
  · have h2 : 128 ≤ c := by
      rcases Nat.lt_or_ge c 128 with h | h
      · exfalso; apply h1; unfold wd; rw [if_pos h]; rfl
      · exact h
    (refine st ?_; intros; rename_i bk)
    refine WC.loopW [(0, .int .i32 (c : Int)), (2, str []), (3, .int .i64 (wd c : Int)), (4, .slice (some ⟨bk, 0, none⟩) (wd c) (wd c)), (5, .int .i64 ((wd c : Int) - 1))] ?_
      (fun j r ds m' H' => r = [(0, .int .i32 (c / 64 ^ (wd c - 1 - j) : Nat)), (2, str []), (3, .int .i64 (wd c : Int)), (4, .slice (some ⟨bk, 0, none⟩) (wd c) (wd c)), (5, .int .i64 (j : Int))] ∧ ds = [] ∧ m' = m ∧ H' = .row (some ⟨bk, 0, none⟩) (wd c) 5 1 (encA c j) :: H ∧ j < wd c) (wd c - 1) ⟨?_, rfl, rfl, ?_, ?_⟩ ?_
    · (repeat (first | exact Env.Sub.nil | refine Env.Sub.cons rfl ?_))
    · simp; omega
    · rw [encA, show wd c - 1 + 1 = wd c by omega, List.drop_eq_nil_of_le (by rw [fm_length]; omega), List.map_nil, List.append_nil]; rfl
    · omega
    rintro j r ds m1 H1 ⟨rfl, rfl, rfl, rfl, hj⟩
    have hel := encA_length c j hj
    have hcc : c / 64 ^ (wd c - 1 - j) ≤ c := Nat.div_le_self _ _
    generalize hq : c / 64 ^ (wd c - 1 - j) = q at hcc ⊢
    by_cases hj1 : 1 ≤ j
    · have he : (encA c j).set j [Value.int .u8 (128 + (q : Int) % 64)] = encA c (j - 1) := by
        have := encA_set hj1 hj
        rw [hq] at this
        rw [← this]; simp [byV]
      have hn : c / 64 ^ (wd c - 1 - (j - 1)) = q / 64 := by rw [← hq, Nat.div_div_eq_div_mul, ← Nat.pow_succ, show wd c - 1 - (j - 1) = wd c - 1 - j + 1 by omega]
      (try (refine st ?_; intros))
      rw [he]
      refine WQ.next (j - 1) ⟨rfl, rfl, rfl, rfl, by omega⟩ (by omega) ?_ (fun w h => h)
      rw [hn, show ((j - 1 : Nat) : Int) = (j : Int) - 1 by omega]
      (repeat (first | exact Env.Sub.nil | refine Env.Sub.cons rfl ?_))
    · obtain rfl : j = 0 := by omega
      obtain ⟨p, hp, hqp, hp6⟩ := enc_head hc (by omega)
      rw [Nat.sub_zero] at hq
      rw [hq] at hqp
      have hfin : (encA c 0).set 0 [Value.int .u8 (256 - (p : Int) + q)] = (fmb c).map fun b => [Value.int .u8 (b.toNat : Int)] := by
        rw [bytes_fm hc, fm_head c (by omega), hq, hp]
        simp [encA, byV]
        omega
      (try (refine st ?_; intros))
      apply WL.shl (e := 8 - wd c)
      · exact rfl
      · exact rfl
      · omega
      · simp [IntKind.bits]; omega
      · exact rfl
      refine WL.rename 36 (u := .int .i64 (p : Int)) rfl (vi ?_) ?_
      · rw [IntKind.wrap_i64, show (1 * 2 ^ (8 - wd c) : Int) = (p : Int) by rw [← hp]; simp]; omega
      (try (refine st ?_; intros))
      rw [hfin]
      apply WL.rowStr (s := fmb c)
      · exact rfl
      · rw [fmb_length]
      · (repeat (first | exact List.Mem.head _ | apply List.Mem.tail))
      · exact rfl
      · exact rfl
      · exact rfl
      · exact rfl
      · exact rfl
      (try (refine st ?_; intros))
      (refine q_fin0 ?_)
      exact Gives.mk rfl
end Go.Proofs.Ytdmdabjaboigcaa

/-
  The walks of package runes and of its reference, fourth part: the piece at a place. No condition.
-/
namespace Go.Proofs.Ytdmdabjaboigcaa
open Go Go.Eng
set_option maxRecDepth 100000
set_option maxHeartbeats 4000000
set_option linter.all false
attribute [local irreducible] WL WC WQ QFun QLoop Does Q1 QRound QAssign Go.Addr.add
theorem sq_R4_1 {G : Prop} (h : G := by (repeat (first | (refine sp ?_; (repeat intro zzc)) | (refine iF 67 rfl ?_; refine w_callG Try.func67 ?_ (hs := read_any _ _ (by omega) (by omega) _ _ _)) | (refine iF 72 rfl ?_; refine w_callG Try.func72 ?_ (hs := none_any _ _ _ _)) | (refine iF 35 rfl ?_; refine w_callG Try.func35 ?_ (hs := rwidth_any _ _ _ _)) | (refine iF 37 rfl ?_; refine w_callG Try.func37 ?_ (hs := rencode_any _ _ _ _)))); exact WQ.q1 rfl) : G := h
theorem st_R4_1 {G G' : Prop} (next : G') (h : Bx G' → G := by intro zzn; (first | ((refine st ?_; (repeat intro zzc)); (try ((first | (refine iF 67 rfl ?_; refine w_callG Try.func67 ?_ (hs := read_any _ _ (by omega) (by omega) _ _ _)) | (refine iF 72 rfl ?_; refine w_callG Try.func72 ?_ (hs := none_any _ _ _ _)) | (refine iF 35 rfl ?_; refine w_callG Try.func35 ?_ (hs := rwidth_any _ _ _ _)) | (refine iF 37 rfl ?_; refine w_callG Try.func37 ?_ (hs := rencode_any _ _ _ _)) | ((refine iDraw ?_; (first | refine WC.drawAll rfl (by decide +kernel) ?_ | refine WC.draw 1 rfl (by decide +kernel) ?_ | refine WC.draw 2 rfl (by decide +kernel) ?_ | refine WC.draw 3 rfl (by decide +kernel) ?_ | refine WC.draw 4 rfl (by decide +kernel) ?_ | refine WC.draw 5 rfl (by decide +kernel) ?_ | refine WC.draw 6 rfl (by decide +kernel) ?_ | refine WC.draw 7 rfl (by decide +kernel) ?_ | refine WC.draw 8 rfl (by decide +kernel) ?_ | refine WC.draw 9 rfl (by decide +kernel) ?_ | refine WC.draw 10 rfl (by decide +kernel) ?_ | refine WC.draw 11 rfl (by decide +kernel) ?_ | refine WC.draw 12 rfl (by decide +kernel) ?_ | refine WC.draw 13 rfl (by decide +kernel) ?_ | refine WC.draw 14 rfl (by decide +kernel) ?_ | refine WC.draw 15 rfl (by decide +kernel) ?_ | refine WC.draw 16 rfl (by decide +kernel) ?_ | refine WC.draw 17 rfl (by decide +kernel) ?_ | refine WC.draw 18 rfl (by decide +kernel) ?_ | refine WC.draw 19 rfl (by decide +kernel) ?_ | refine WC.draw 20 rfl (by decide +kernel) ?_ | refine WC.draw 21 rfl (by decide +kernel) ?_ | refine WC.draw 22 rfl (by decide +kernel) ?_ | refine WC.draw 23 rfl (by decide +kernel) ?_ | refine WC.draw 24 rfl (by decide +kernel) ?_)); (repeat (refine WD.cons rfl (fun c h => by cases h) sq_R4_1 ?_)); refine WD.nil ?_)); (try (refine st ?_; (repeat intro zzc)))))) | ((first | (refine iF 67 rfl ?_; refine w_callG Try.func67 ?_ (hs := read_any _ _ (by omega) (by omega) _ _ _)) | (refine iF 72 rfl ?_; refine w_callG Try.func72 ?_ (hs := none_any _ _ _ _)) | (refine iF 35 rfl ?_; refine w_callG Try.func35 ?_ (hs := rwidth_any _ _ _ _)) | (refine iF 37 rfl ?_; refine w_callG Try.func37 ?_ (hs := rencode_any _ _ _ _)) | ((refine iDraw ?_; (first | refine WC.drawAll rfl (by decide +kernel) ?_ | refine WC.draw 1 rfl (by decide +kernel) ?_ | refine WC.draw 2 rfl (by decide +kernel) ?_ | refine WC.draw 3 rfl (by decide +kernel) ?_ | refine WC.draw 4 rfl (by decide +kernel) ?_ | refine WC.draw 5 rfl (by decide +kernel) ?_ | refine WC.draw 6 rfl (by decide +kernel) ?_ | refine WC.draw 7 rfl (by decide +kernel) ?_ | refine WC.draw 8 rfl (by decide +kernel) ?_ | refine WC.draw 9 rfl (by decide +kernel) ?_ | refine WC.draw 10 rfl (by decide +kernel) ?_ | refine WC.draw 11 rfl (by decide +kernel) ?_ | refine WC.draw 12 rfl (by decide +kernel) ?_ | refine WC.draw 13 rfl (by decide +kernel) ?_ | refine WC.draw 14 rfl (by decide +kernel) ?_ | refine WC.draw 15 rfl (by decide +kernel) ?_ | refine WC.draw 16 rfl (by decide +kernel) ?_ | refine WC.draw 17 rfl (by decide +kernel) ?_ | refine WC.draw 18 rfl (by decide +kernel) ?_ | refine WC.draw 19 rfl (by decide +kernel) ?_ | refine WC.draw 20 rfl (by decide +kernel) ?_ | refine WC.draw 21 rfl (by decide +kernel) ?_ | refine WC.draw 22 rfl (by decide +kernel) ?_ | refine WC.draw 23 rfl (by decide +kernel) ?_ | refine WC.draw 24 rfl (by decide +kernel) ?_)); (repeat (refine WD.cons rfl (fun c h => by cases h) sq_R4_1 ?_)); refine WD.nil ?_)); (try (refine st ?_; (repeat intro zzc))))); (repeat ((first | (refine iF 67 rfl ?_; refine w_callG Try.func67 ?_ (hs := read_any _ _ (by omega) (by omega) _ _ _)) | (refine iF 72 rfl ?_; refine w_callG Try.func72 ?_ (hs := none_any _ _ _ _)) | (refine iF 35 rfl ?_; refine w_callG Try.func35 ?_ (hs := rwidth_any _ _ _ _)) | (refine iF 37 rfl ?_; refine w_callG Try.func37 ?_ (hs := rencode_any _ _ _ _)) | ((refine iDraw ?_; (first | refine WC.drawAll rfl (by decide +kernel) ?_ | refine WC.draw 1 rfl (by decide +kernel) ?_ | refine WC.draw 2 rfl (by decide +kernel) ?_ | refine WC.draw 3 rfl (by decide +kernel) ?_ | refine WC.draw 4 rfl (by decide +kernel) ?_ | refine WC.draw 5 rfl (by decide +kernel) ?_ | refine WC.draw 6 rfl (by decide +kernel) ?_ | refine WC.draw 7 rfl (by decide +kernel) ?_ | refine WC.draw 8 rfl (by decide +kernel) ?_ | refine WC.draw 9 rfl (by decide +kernel) ?_ | refine WC.draw 10 rfl (by decide +kernel) ?_ | refine WC.draw 11 rfl (by decide +kernel) ?_ | refine WC.draw 12 rfl (by decide +kernel) ?_ | refine WC.draw 13 rfl (by decide +kernel) ?_ | refine WC.draw 14 rfl (by decide +kernel) ?_ | refine WC.draw 15 rfl (by decide +kernel) ?_ | refine WC.draw 16 rfl (by decide +kernel) ?_ | refine WC.draw 17 rfl (by decide +kernel) ?_ | refine WC.draw 18 rfl (by decide +kernel) ?_ | refine WC.draw 19 rfl (by decide +kernel) ?_ | refine WC.draw 20 rfl (by decide +kernel) ?_ | refine WC.draw 21 rfl (by decide +kernel) ?_ | refine WC.draw 22 rfl (by decide +kernel) ?_ | refine WC.draw 23 rfl (by decide +kernel) ?_ | refine WC.draw 24 rfl (by decide +kernel) ?_)); (repeat (refine WD.cons rfl (fun c h => by cases h) sq_R4_1 ?_)); refine WD.nil ?_)); (try (refine st ?_; (repeat intro zzc))))); (repeat revert zzc); exact zzn.out) : G := h ⟨next⟩
theorem gb_le (l : List UInt8) (k : Nat) : gb l k ≤ 255 := by
  have : ∀ x : UInt8, x.toNat ≤ 255 := fun x => by have := x.toNat_lt; omega
  exact this _
def zeroP : Value := .agg #[.int .i64 0, .int .i64 0, .int .i32 0, .bool false]
theorem at_in (l : List UInt8) (k : Nat) (hl : l.length ≤ 9223372036854775804) (hk : k < l.length) (w0 : World) (m : Mem) (H : SHeap) :
    Does Try.prog 16 #[str l, .int .i64 (k : Int)] w0 m H (Gives (.tuple #[(readP l k).v, .int .i64 0]) m H) := by
  refine Does.of_body (args := [str l, .int .i64 (k : Int)]) Try.func16 rfl Try.ntmps16 rfl ?_
  (try (refine st_R4_1 ?_; intros))
  (refine q_fin0 ?_)
  exact Gives.mk rfl
theorem at_out (l : List UInt8) (k : Int) (hk : k < 0 ∨ (l.length : Int) ≤ k) (w0 : World) (m : Mem) (H : SHeap) :
    Does Try.prog 16 #[str l, .int .i64 k] w0 m H (Gives (.tuple #[zeroP, .int .i64 5]) m H) := by
  refine Does.of_body (args := [str l, .int .i64 k]) Try.func16 rfl Try.ntmps16 rfl ?_
  (repeat' (first | (refine st_R4_1 ?_; intros) | (first | refine c_ways (fun h1 => ?_) (fun h1 => ?_) | refine c_nways (fun h1 => ?_) (fun h1 => ?_) | refine w_gways (fun h1 => ?_) (fun h1 => ?_) | refine w_gnways (fun h1 => ?_) (fun h1 => ?_))))
  all_goals ((refine q_fin0 ?_); exact Gives.mk rfl)
/-- the reference's Form: the rune that begins there, and its width; or nothing -/
def formN (l : List UInt8) : Nat × Nat := if dl l = (65533, 1) then (0, 0) else dl l
def cv (l : List UInt8) (n : Nat) : Nat → Int
  | 0 => if n = 1 then (gb l 0 : Int) else (gb l 0 : Int) - (256 - 2 ^ (8 - n))
  | i + 1 => cv l n i * 64 + gb l (i + 1) - 128
theorem cv_bound {l : List UInt8} {n i : Nat} (h1 : 2 ≤ n) (h2 : n ≤ 4) (h3 : i ≤ 3) : -64000000 ≤ cv l n i ∧ cv l n i ≤ 64000000 ∧ (i ≤ 2 → -1000000 ≤ cv l n i ∧ cv l n i ≤ 1000000) := by
  have g0 := gb_le l 0
  have g1 := gb_le l 1
  have g2 := gb_le l 2
  have g3 := gb_le l 3
  have hp : (16 : Int) ≤ 2 ^ (8 - n) ∧ (2 : Int) ^ (8 - n) ≤ 64 := by
    obtain rfl | rfl | rfl : n = 2 ∨ n = 3 ∨ n = 4 := by omega
    all_goals decide
  have c0 : cv l n 0 = (gb l 0 : Int) - (256 - 2 ^ (8 - n)) := by rw [cv, if_neg (by omega)]
  have c1 : cv l n 1 = cv l n 0 * 64 + gb l 1 - 128 := rfl
  have c2 : cv l n 2 = cv l n 1 * 64 + gb l 2 - 128 := rfl
  have c3 : cv l n 3 = cv l n 2 * 64 + gb l 3 - 128 := rfl
  generalize (2 : Int) ^ (8 - n) = p at *
  obtain rfl | rfl | rfl | rfl : i = 0 ∨ i = 1 ∨ i = 2 ∨ i = 3 := by omega
  all_goals omega
theorem cv_of_begins {L : List UInt8} {c : Nat} (hc : okr c) (h : begins L c) : cv L (wd c) (wd c - 1) = (c : Int) := by
  have hc' := okr_le hc
  have g := h.2
  have c0 : cv L (wd c) 0 = if wd c = 1 then (gb L 0 : Int) else (gb L 0 : Int) - (256 - 2 ^ (8 - wd c)) := rfl
  have c1 : cv L (wd c) 1 = cv L (wd c) 0 * 64 + gb L 1 - 128 := rfl
  have c2 : cv L (wd c) 2 = cv L (wd c) 1 * 64 + gb L 2 - 128 := rfl
  have c3 : cv L (wd c) 3 = cv L (wd c) 2 * 64 + gb L 3 - 128 := rfl
  have g0 : 0 < wd c → gb L 0 = (fm c).getD 0 0 := g 0
  have g1 : 1 < wd c → gb L 1 = (fm c).getD 1 0 := g 1
  have g2 : 2 < wd c → gb L 2 = (fm c).getD 2 0 := g 2
  have g3 : 3 < wd c → gb L 3 = (fm c).getD 3 0 := g 3
  unfold fm at g0 g1 g2 g3
  unfold wd at *
  by_cases h3 : c < 128
  · simp only [h3, if_true] at *
    simp at g0
    simp [c0, g0]
  · simp only [h3, if_false] at *
    by_cases h4 : c < 2048
    · simp only [h4, if_true] at *
      simp at g0 g1 c0 ⊢
      rw [c1, c0]; omega
    · simp only [h4, if_false] at *
      by_cases h5 : c < 65536
      · simp only [h5, if_true] at *
        simp at g0 g1 g2 c0 ⊢
        rw [c2, c1, c0]; omega
      · simp only [h5, if_false] at *
        simp at g0 g1 g2 g3 c0 ⊢
        rw [c3, c2, c1, c0]; omega
theorem form_yes {L : List UInt8} {n : Nat} (hv : ¬ Utf8.valid (cv L n (n - 1)) = false) (hw : rwd (cv L n (n - 1)) = n) (hn : n ≤ L.length) (he : fmb (rn (cv L n (n - 1))) = L.take n) : formN L = (rn (cv L n (n - 1)), n) ∧ cv L n (n - 1) = (rn (cv L n (n - 1)) : Int) := by
  generalize cv L n (n - 1) = q at *
  obtain ⟨h1, _⟩ | ⟨_, h2⟩ := rn_cases q
  · exact absurd h1 hv
  have hok := rn_ok q
  generalize rn q = c at *
  subst h2
  rw [rwd_okr hok] at hw
  subst hw
  have hd := dl_of_begins hok ((begins_iff L c (okr_le hok)).2 he.symm)
  refine ⟨?_, rfl⟩
  rw [formN, if_neg, hd]
  rw [hd]
  intro h
  have h1 : c = 65533 := congrArg Prod.fst h
  have h2 : wd c = 1 := congrArg Prod.snd h
  rw [h1] at h2
  cases h2
theorem form_no {L : List UInt8} {n : Nat} (h : ¬ (¬ Utf8.valid (cv L n (n - 1)) = false ∧ rwd (cv L n (n - 1)) = n ∧ fmb (rn (cv L n (n - 1))) = L.take n)) : ∀ c, okr c → wd c = n → ¬ begins L c := by
  rintro c hok rfl hb
  have hcv := cv_of_begins hok hb
  apply h
  rw [hcv, rwd_okr hok, rn_nat hok, (valid_nat c).2 hok]
  exact ⟨by simp, rfl, ((begins_iff L c (okr_le hok)).1 hb).symm⟩
theorem form_any (l : List UInt8) (k : Nat) (hl : l.length ≤ 9223372036854775804) (hk : k < l.length) (w0 : World) (m : Mem) (H : SHeap) :
    Does Try.prog 68 #[str l, .int .i64 (k : Int)] w0 m H (Gives (.tuple #[.int .i32 ((formN (l.drop k)).1 : Int), .int .i64 ((formN (l.drop k)).2 : Int)]) m H) := by
  refine Does.of_body (args := [str l, .int .i64 (k : Int)]) Try.func68 rfl Try.ntmps68 rfl ?_
  (try (refine st_R4_1 ?_; intros))
  refine WC.loopW [(6, .int .i64 1), (0, str l), (1, .int .i64 (k : Int))] ?_ (fun j r ds m' H' => ∃ n : Nat, j = 5 - n ∧ 1 ≤ n ∧ n ≤ 5 ∧ r = [(6, .int .i64 (n : Int)), (0, str l), (1, .int .i64 (k : Int))] ∧ ds = [] ∧ m' = m ∧ H' = H ∧ ∀ c, okr c → wd c < n → ¬ begins (l.drop k) c) 4
    ⟨1, rfl, by omega, by omega, rfl, rfl, rfl, rfl, fun c _ h => by have := wd_pos c; omega⟩ ?_
  · (repeat (first | exact Env.Sub.nil | refine Env.Sub.cons rfl ?_))
  rintro j r ds m' H' ⟨n, rfl, h1, h2, rfl, rfl, rfl, rfl, hno⟩
  have hb := gb_le l k
  generalize hL : l.drop k = L at hno ⊢
  have hLl : L.length = l.length - k := by rw [← hL, List.length_drop]
  have hg : ∀ i, gb L i = gb l (k + i) := fun i => by rw [← hL]; exact nb_drop l k i
  have hg0 : gb L 0 = gb l k := hg 0
  (try (refine st_R4_1 ?_; intros))
  (first | refine c_ways (fun h3 => ?_) (fun h3 => ?_) | refine c_nways (fun h3 => ?_) (fun h3 => ?_) | refine w_gways (fun h3 => ?_) (fun h3 => ?_) | refine w_gnways (fun h3 => ?_) (fun h3 => ?_))
  · (try (refine st_R4_1 ?_; intros))
    (first | refine c_ways (fun h4 => ?_) (fun h4 => ?_) | refine c_nways (fun h4 => ?_) (fun h4 => ?_) | refine w_gways (fun h4 => ?_) (fun h4 => ?_) | refine w_gnways (fun h4 => ?_) (fun h4 => ?_))
    · (try (refine st_R4_1 ?_; intros))
      refine WC.join (fun r' ds' m1 H1 => r' = [(6, .int .i64 (n : Int)), (0, str l), (1, .int .i64 (k : Int)), (7, .int .i32 (cv L n 0))] ∧ ds' = [] ∧ m1 = m' ∧ H1 = H') ?_ ?_
      · (try (refine st_R4_1 ?_; intros))
        (first | refine c_ways (fun h5 => ?_) (fun h5 => ?_) | refine c_nways (fun h5 => ?_) (fun h5 => ?_) | refine w_gways (fun h5 => ?_) (fun h5 => ?_) | refine w_gnways (fun h5 => ?_) (fun h5 => ?_))
        · (try (refine st_R4_1 ?_; intros))
          apply WL.shl (e := 8 - n)
          · exact rfl
          · exact rfl
          · omega
          · simp [IntKind.bits]; omega
          · exact rfl
          obtain ⟨p, hp, hp1, hp2⟩ : ∃ p : Nat, p = 2 ^ (8 - n) ∧ 16 ≤ p ∧ p ≤ 64 := by
            obtain rfl | rfl | rfl : n = 2 ∨ n = 3 ∨ n = 4 := by omega
            all_goals exact ⟨_, rfl, by decide, by decide⟩
          refine WL.rename 30 (u := .int .i32 (p : Int)) rfl (vi ?_) ?_
          · rw [IntKind.wrap_i32, show (1 * 2 ^ (8 - n) : Int) = (p : Int) by rw [hp]; simp]; omega
          (try (refine st_R4_1 ?_; intros))
          refine WQ.join ⟨rfl, rfl, rfl, rfl⟩ ?_ (fun w h => h)
          rw [cv, if_neg (by omega), hg0, show (2 ^ (8 - n) : Int) = (p : Int) by rw [hp]; simp]
          (repeat (first | exact Env.Sub.nil | refine Env.Sub.cons rfl ?_))
        · (try (refine st_R4_1 ?_; intros))
          refine WQ.join ⟨rfl, rfl, rfl, rfl⟩ ?_ (fun w h => h)
          rw [cv, if_pos (by omega), hg0]
          (repeat (first | exact Env.Sub.nil | refine Env.Sub.cons rfl ?_))
      rintro _ _ m' H' ⟨rfl, rfl, rfl, rfl⟩
      (try (refine st_R4_1 ?_; intros))
      refine WC.loopW [(8, .int .i64 1), (6, .int .i64 (n : Int)), (0, str l), (1, .int .i64 (k : Int)), (7, .int .i32 (cv L n 0))] ?_ (fun j r ds m1 H1 => ∃ i : Nat, j = n - i ∧ 1 ≤ i ∧ i ≤ n ∧ r = [(8, .int .i64 (i : Int)), (6, .int .i64 (n : Int)), (0, str l), (1, .int .i64 (k : Int)), (7, .int .i32 (cv L n (i - 1)))] ∧ ds = [] ∧ m1 = m' ∧ H1 = H') (n - 1)
        ⟨1, rfl, by omega, by omega, rfl, rfl, rfl, rfl⟩ ?_
      · (repeat (first | exact Env.Sub.nil | refine Env.Sub.cons rfl ?_))
      rintro j r ds m1 H1 ⟨i, rfl, hi1, hi2, rfl, rfl, rfl, rfl⟩
      (try (refine st_R4_1 ?_; intros))
      (first | refine c_ways (fun h5 => ?_) (fun h5 => ?_) | refine c_nways (fun h5 => ?_) (fun h5 => ?_) | refine w_gways (fun h5 => ?_) (fun h5 => ?_) | refine w_gnways (fun h5 => ?_) (fun h5 => ?_))
      · have hcb := cv_bound (l := L) (n := n) (i := i - 1) (by omega) (by omega) (by omega)
        have hcs : cv L n i = cv L n (i - 1) * 64 + gb l (k + i) - 128 := by
          obtain ⟨i', rfl⟩ : ∃ i', i = i' + 1 := ⟨i - 1, by omega⟩
          rw [← hg]; rfl
        generalize cv L n (i - 1) = q at *
        have hb2 := gb_le l (k + i)
        (try (refine st_R4_1 ?_; intros))
        rw [← hcs]
        refine WQ.next (n - (i + 1)) ⟨i + 1, rfl, by omega, by omega, rfl, rfl, rfl, rfl⟩ (by omega) ?_ (fun w h => h)
        rw [Nat.add_sub_cancel]
        (repeat (first | exact Env.Sub.nil | refine Env.Sub.cons rfl ?_))
      · obtain rfl : i = n := by omega
        have hA := form_yes (L := L) (n := i)
        have hB := form_no (L := L) (n := i)
        generalize cv L i (i - 1) = q at *
        have hsl : (l.take (k + i)).drop k = L.take i := by rw [take_drop_swap, hL]
        by_cases hv : Utf8.valid q = false
        · (try (refine st_R4_1 ?_; intros))
          exact WQ.next (5 - (i + 1)) ⟨i + 1, rfl, by omega, by omega, rfl, rfl, rfl, rfl, fun c hc hcw => by
            rcases Nat.lt_or_ge (wd c) i with h | h
            · exact hno c hc h
            · exact hB (fun h => h.1 hv) c hc (by omega)⟩ (by omega) (by (repeat (first | exact Env.Sub.nil | refine Env.Sub.cons rfl ?_))) (fun w h => h)
        · by_cases hw : rwd q = i
          · (try (refine st_R4_1 ?_; intros))
            (first | refine c_ways (fun h6 => ?_) (fun h6 => ?_) | refine c_nways (fun h6 => ?_) (fun h6 => ?_) | refine w_gways (fun h6 => ?_) (fun h6 => ?_) | refine w_gnways (fun h6 => ?_) (fun h6 => ?_))
            · obtain ⟨e1, e2⟩ := hA hv hw (by omega) (by rw [← hsl]; exact h6)
              (try (refine st_R4_1 ?_; intros))
              (refine q_fin0 ?_)
              rw [e1, ← e2]
              exact Gives.mk rfl
            · (try (refine st_R4_1 ?_; intros))
              exact WQ.next (5 - (i + 1)) ⟨i + 1, rfl, by omega, by omega, rfl, rfl, rfl, rfl, fun c hc hcw => by
            rcases Nat.lt_or_ge (wd c) i with h | h
            · exact hno c hc h
            · exact hB (fun h => h6 (by rw [hsl]; exact h.2.2)) c hc (by omega)⟩ (by omega) (by (repeat (first | exact Env.Sub.nil | refine Env.Sub.cons rfl ?_))) (fun w h => h)
          · (try (refine st_R4_1 ?_; intros))
            exact WQ.next (5 - (i + 1)) ⟨i + 1, rfl, by omega, by omega, rfl, rfl, rfl, rfl, fun c hc hcw => by
            rcases Nat.lt_or_ge (wd c) i with h | h
            · exact hno c hc h
            · exact hB (fun h => hw h.2.1) c hc (by omega)⟩ (by omega) (by (repeat (first | exact Env.Sub.nil | refine Env.Sub.cons rfl ?_))) (fun w h => h)
    · (try (refine st_R4_1 ?_; intros))
      (refine q_fin0 ?_)
      have : formN L = (0, 0) := by
        rcases dl_cases L (by omega) with ⟨g1, g2, g3⟩ | ⟨g1, _⟩
        · exact absurd g3 (hno _ g1 (by have := g3.1; omega))
        · rw [formN, if_pos g1]
      rw [this]
      exact Gives.mk rfl
  · (try (refine st_R4_1 ?_; intros))
    (refine q_fin0 ?_)
    have : formN L = (0, 0) := by
      rcases dl_cases L (by omega) with ⟨g1, g2, g3⟩ | ⟨g1, _⟩
      · exact absurd g3 (hno _ g1 (by have := wd_pos (dl L).1; omega))
      · rw [formN, if_pos g1]
    rw [this]
    exact Gives.mk rfl
end Go.Proofs.Ytdmdabjaboigcaa

/-
  The walks of package runes and of its reference, fifth part: the pieces of a text, the last of them, their number. No condition.
-/
namespace Go.Proofs.Ytdmdabjaboigcaa
open Go Go.Eng
set_option maxRecDepth 100000
set_option maxHeartbeats 4000000
set_option linter.all false
attribute [local irreducible] WL WC WQ QFun QLoop Does Q1 QRound QAssign Go.Addr.add
theorem sq_R5_1 {G : Prop} (h : G := by (repeat (first | (refine sp ?_; (repeat intro zzc)) | (refine iF 67 rfl ?_; refine w_callG Try.func67 ?_ (hs := read_z _ (by (first | with_reducible exact natz _ | with_reducible exact natz0 | with_reducible exact natz1 | with_reducible exact natz2 | with_reducible exact natz3 | with_reducible exact natz4 | with_reducible exact natz8 | (apply natz_add; (· first | with_reducible exact natz _ | with_reducible exact natz0 | with_reducible exact natz1 | with_reducible exact natz2 | with_reducible exact natz3 | with_reducible exact natz4 | with_reducible exact natz8); (· first | with_reducible exact natz _ | with_reducible exact natz0 | with_reducible exact natz1 | with_reducible exact natz2 | with_reducible exact natz3 | with_reducible exact natz4 | with_reducible exact natz8)) | (apply natz_sub; (· first | with_reducible exact natz _ | with_reducible exact natz0 | with_reducible exact natz1 | with_reducible exact natz2 | with_reducible exact natz3 | with_reducible exact natz4 | with_reducible exact natz8); (· first | with_reducible exact natz _ | with_reducible exact natz0 | with_reducible exact natz1 | with_reducible exact natz2 | with_reducible exact natz3 | with_reducible exact natz4 | with_reducible exact natz8); (· omega)) | exact (Int.toNat_of_nonneg (by omega)).symm)) (by omega) (by omega) _ _ _)) | (refine iF 68 rfl ?_; refine w_callG Try.func68 ?_ (hs := form_any _ _ (by omega) (by omega) _ _ _)))); exact WQ.q1 rfl) : G := h
theorem st_R5_1 {G G' : Prop} (next : G') (h : Bx G' → G := by intro zzn; (first | ((refine st ?_; (repeat intro zzc)); (try ((first | (refine iF 67 rfl ?_; refine w_callG Try.func67 ?_ (hs := read_z _ (by (first | with_reducible exact natz _ | with_reducible exact natz0 | with_reducible exact natz1 | with_reducible exact natz2 | with_reducible exact natz3 | with_reducible exact natz4 | with_reducible exact natz8 | (apply natz_add; (· first | with_reducible exact natz _ | with_reducible exact natz0 | with_reducible exact natz1 | with_reducible exact natz2 | with_reducible exact natz3 | with_reducible exact natz4 | with_reducible exact natz8); (· first | with_reducible exact natz _ | with_reducible exact natz0 | with_reducible exact natz1 | with_reducible exact natz2 | with_reducible exact natz3 | with_reducible exact natz4 | with_reducible exact natz8)) | (apply natz_sub; (· first | with_reducible exact natz _ | with_reducible exact natz0 | with_reducible exact natz1 | with_reducible exact natz2 | with_reducible exact natz3 | with_reducible exact natz4 | with_reducible exact natz8); (· first | with_reducible exact natz _ | with_reducible exact natz0 | with_reducible exact natz1 | with_reducible exact natz2 | with_reducible exact natz3 | with_reducible exact natz4 | with_reducible exact natz8); (· omega)) | exact (Int.toNat_of_nonneg (by omega)).symm)) (by omega) (by omega) _ _ _)) | (refine iF 68 rfl ?_; refine w_callG Try.func68 ?_ (hs := form_any _ _ (by omega) (by omega) _ _ _)) | ((refine iDraw ?_; (first | refine WC.drawAll rfl (by decide +kernel) ?_ | refine WC.draw 1 rfl (by decide +kernel) ?_ | refine WC.draw 2 rfl (by decide +kernel) ?_ | refine WC.draw 3 rfl (by decide +kernel) ?_ | refine WC.draw 4 rfl (by decide +kernel) ?_ | refine WC.draw 5 rfl (by decide +kernel) ?_ | refine WC.draw 6 rfl (by decide +kernel) ?_ | refine WC.draw 7 rfl (by decide +kernel) ?_ | refine WC.draw 8 rfl (by decide +kernel) ?_ | refine WC.draw 9 rfl (by decide +kernel) ?_ | refine WC.draw 10 rfl (by decide +kernel) ?_ | refine WC.draw 11 rfl (by decide +kernel) ?_ | refine WC.draw 12 rfl (by decide +kernel) ?_ | refine WC.draw 13 rfl (by decide +kernel) ?_ | refine WC.draw 14 rfl (by decide +kernel) ?_ | refine WC.draw 15 rfl (by decide +kernel) ?_ | refine WC.draw 16 rfl (by decide +kernel) ?_ | refine WC.draw 17 rfl (by decide +kernel) ?_ | refine WC.draw 18 rfl (by decide +kernel) ?_ | refine WC.draw 19 rfl (by decide +kernel) ?_ | refine WC.draw 20 rfl (by decide +kernel) ?_ | refine WC.draw 21 rfl (by decide +kernel) ?_ | refine WC.draw 22 rfl (by decide +kernel) ?_ | refine WC.draw 23 rfl (by decide +kernel) ?_ | refine WC.draw 24 rfl (by decide +kernel) ?_)); (repeat (refine WD.cons rfl (fun c h => by cases h) sq_R5_1 ?_)); refine WD.nil ?_)); (try (refine st ?_; (repeat intro zzc)))))) | ((first | (refine iF 67 rfl ?_; refine w_callG Try.func67 ?_ (hs := read_z _ (by (first | with_reducible exact natz _ | with_reducible exact natz0 | with_reducible exact natz1 | with_reducible exact natz2 | with_reducible exact natz3 | with_reducible exact natz4 | with_reducible exact natz8 | (apply natz_add; (· first | with_reducible exact natz _ | with_reducible exact natz0 | with_reducible exact natz1 | with_reducible exact natz2 | with_reducible exact natz3 | with_reducible exact natz4 | with_reducible exact natz8); (· first | with_reducible exact natz _ | with_reducible exact natz0 | with_reducible exact natz1 | with_reducible exact natz2 | with_reducible exact natz3 | with_reducible exact natz4 | with_reducible exact natz8)) | (apply natz_sub; (· first | with_reducible exact natz _ | with_reducible exact natz0 | with_reducible exact natz1 | with_reducible exact natz2 | with_reducible exact natz3 | with_reducible exact natz4 | with_reducible exact natz8); (· first | with_reducible exact natz _ | with_reducible exact natz0 | with_reducible exact natz1 | with_reducible exact natz2 | with_reducible exact natz3 | with_reducible exact natz4 | with_reducible exact natz8); (· omega)) | exact (Int.toNat_of_nonneg (by omega)).symm)) (by omega) (by omega) _ _ _)) | (refine iF 68 rfl ?_; refine w_callG Try.func68 ?_ (hs := form_any _ _ (by omega) (by omega) _ _ _)) | ((refine iDraw ?_; (first | refine WC.drawAll rfl (by decide +kernel) ?_ | refine WC.draw 1 rfl (by decide +kernel) ?_ | refine WC.draw 2 rfl (by decide +kernel) ?_ | refine WC.draw 3 rfl (by decide +kernel) ?_ | refine WC.draw 4 rfl (by decide +kernel) ?_ | refine WC.draw 5 rfl (by decide +kernel) ?_ | refine WC.draw 6 rfl (by decide +kernel) ?_ | refine WC.draw 7 rfl (by decide +kernel) ?_ | refine WC.draw 8 rfl (by decide +kernel) ?_ | refine WC.draw 9 rfl (by decide +kernel) ?_ | refine WC.draw 10 rfl (by decide +kernel) ?_ | refine WC.draw 11 rfl (by decide +kernel) ?_ | refine WC.draw 12 rfl (by decide +kernel) ?_ | refine WC.draw 13 rfl (by decide +kernel) ?_ | refine WC.draw 14 rfl (by decide +kernel) ?_ | refine WC.draw 15 rfl (by decide +kernel) ?_ | refine WC.draw 16 rfl (by decide +kernel) ?_ | refine WC.draw 17 rfl (by decide +kernel) ?_ | refine WC.draw 18 rfl (by decide +kernel) ?_ | refine WC.draw 19 rfl (by decide +kernel) ?_ | refine WC.draw 20 rfl (by decide +kernel) ?_ | refine WC.draw 21 rfl (by decide +kernel) ?_ | refine WC.draw 22 rfl (by decide +kernel) ?_ | refine WC.draw 23 rfl (by decide +kernel) ?_ | refine WC.draw 24 rfl (by decide +kernel) ?_)); (repeat (refine WD.cons rfl (fun c h => by cases h) sq_R5_1 ?_)); refine WD.nil ?_)); (try (refine st ?_; (repeat intro zzc))))); (repeat ((first | (refine iF 67 rfl ?_; refine w_callG Try.func67 ?_ (hs := read_z _ (by (first | with_reducible exact natz _ | with_reducible exact natz0 | with_reducible exact natz1 | with_reducible exact natz2 | with_reducible exact natz3 | with_reducible exact natz4 | with_reducible exact natz8 | (apply natz_add; (· first | with_reducible exact natz _ | with_reducible exact natz0 | with_reducible exact natz1 | with_reducible exact natz2 | with_reducible exact natz3 | with_reducible exact natz4 | with_reducible exact natz8); (· first | with_reducible exact natz _ | with_reducible exact natz0 | with_reducible exact natz1 | with_reducible exact natz2 | with_reducible exact natz3 | with_reducible exact natz4 | with_reducible exact natz8)) | (apply natz_sub; (· first | with_reducible exact natz _ | with_reducible exact natz0 | with_reducible exact natz1 | with_reducible exact natz2 | with_reducible exact natz3 | with_reducible exact natz4 | with_reducible exact natz8); (· first | with_reducible exact natz _ | with_reducible exact natz0 | with_reducible exact natz1 | with_reducible exact natz2 | with_reducible exact natz3 | with_reducible exact natz4 | with_reducible exact natz8); (· omega)) | exact (Int.toNat_of_nonneg (by omega)).symm)) (by omega) (by omega) _ _ _)) | (refine iF 68 rfl ?_; refine w_callG Try.func68 ?_ (hs := form_any _ _ (by omega) (by omega) _ _ _)) | ((refine iDraw ?_; (first | refine WC.drawAll rfl (by decide +kernel) ?_ | refine WC.draw 1 rfl (by decide +kernel) ?_ | refine WC.draw 2 rfl (by decide +kernel) ?_ | refine WC.draw 3 rfl (by decide +kernel) ?_ | refine WC.draw 4 rfl (by decide +kernel) ?_ | refine WC.draw 5 rfl (by decide +kernel) ?_ | refine WC.draw 6 rfl (by decide +kernel) ?_ | refine WC.draw 7 rfl (by decide +kernel) ?_ | refine WC.draw 8 rfl (by decide +kernel) ?_ | refine WC.draw 9 rfl (by decide +kernel) ?_ | refine WC.draw 10 rfl (by decide +kernel) ?_ | refine WC.draw 11 rfl (by decide +kernel) ?_ | refine WC.draw 12 rfl (by decide +kernel) ?_ | refine WC.draw 13 rfl (by decide +kernel) ?_ | refine WC.draw 14 rfl (by decide +kernel) ?_ | refine WC.draw 15 rfl (by decide +kernel) ?_ | refine WC.draw 16 rfl (by decide +kernel) ?_ | refine WC.draw 17 rfl (by decide +kernel) ?_ | refine WC.draw 18 rfl (by decide +kernel) ?_ | refine WC.draw 19 rfl (by decide +kernel) ?_ | refine WC.draw 20 rfl (by decide +kernel) ?_ | refine WC.draw 21 rfl (by decide +kernel) ?_ | refine WC.draw 22 rfl (by decide +kernel) ?_ | refine WC.draw 23 rfl (by decide +kernel) ?_ | refine WC.draw 24 rfl (by decide +kernel) ?_)); (repeat (refine WD.cons rfl (fun c h => by cases h) sq_R5_1 ?_)); refine WD.nil ?_)); (try (refine st ?_; (repeat intro zzc))))); (repeat revert zzc); exact zzn.out) : G := h ⟨next⟩
theorem read_z (l : List UInt8) {z : Int} {k : Nat} (hz : z = (k : Int)) (hl : l.length ≤ 9223372036854775804) (hk : k < l.length) (w0 : World) (m : Mem) (H : SHeap) :
    Does Try.prog 67 #[str l, .int .i64 z] w0 m H (Gives (readP l k).v m H) := by subst hz; exact read_any l k hl hk w0 m H
theorem refAt_any (l : List UInt8) (k : Nat) (hl : l.length ≤ 9223372036854775804) (hk : k < l.length) (w0 : World) (m : Mem) (H : SHeap) :
    Does Try.prog 17 #[str l, .int .i64 (k : Int)] w0 m H (Gives (readP l k).v m H) := by
  refine Does.of_body (args := [str l, .int .i64 (k : Int)]) Try.func17 rfl Try.ntmps17 rfl ?_
  have hc := dl_cases (l.drop k) (by simp; omega)
  by_cases hA : dl (l.drop k) = (65533, 1)
  · have h1 : formN (l.drop k) = (0, 0) := by rw [formN, if_pos hA]
    have h2 : readP l k = ⟨k, 1, 65533, true⟩ := by unfold readP; rw [if_pos hA]
    rw [h2]
    (try (refine st_R5_1 ?_; intros))
    rw [h1]
    (try (refine st_R5_1 ?_; intros))
    (refine q_fin0 ?_)
    exact Gives.mk rfl
  · have h1 : formN (l.drop k) = dl (l.drop k) := by rw [formN, if_neg hA]
    have h2 : readP l k = ⟨k, (dl (l.drop k)).2, (dl (l.drop k)).1, false⟩ := by unfold readP; rw [if_neg hA]
    have hw := readP_w hk
    rw [readP_w_eq] at hw
    rw [h2]
    (try (refine st_R5_1 ?_; intros))
    rw [h1]
    (try (refine st_R5_1 ?_; intros))
    (refine q_fin0 ?_)
    exact Gives.mk rfl
theorem last_any (l : List UInt8) (hl : l.length ≤ 9223372036854775804) (h0 : 0 < l.length) (w0 : World) (m : Mem) (H : SHeap) :
    Does Try.prog 69 #[str l] w0 m H (Gives (lastP l).v m H) := by
  refine Does.of_body (args := [str l]) Try.func69 rfl Try.ntmps69 rfl ?_
  (refine st_R5_1 ?_; intros; rename_i bk)
  refine WC.loopW [(4, .int .i64 2), (3, .int .i64 (l.length : Int)), (0, str l), (2, .pointer (some ⟨bk, 0, none⟩))] ?_ (fun j r ds m' H' => ∃ w : Nat, j = 5 - w ∧ 2 ≤ w ∧ w ≤ 5 ∧ r = [(4, .int .i64 (w : Int)), (3, .int .i64 (l.length : Int)), (0, str l), (2, .pointer (some ⟨bk, 0, none⟩))] ∧ ds = [] ∧ m' = m ∧ H' = .blk bk (.cells [.int .i64 0, .int .i64 0, .int .i32 0, .bool false].toArray 24 (0, 0)) :: H ∧
      ∀ v, 2 ≤ v → v < w → v ≤ l.length → ¬ ((readP l (l.length - v)).b = false ∧ (readP l (l.length - v)).w = v)) 3 ⟨2, rfl, by omega, by omega, rfl, rfl, rfl, rfl, fun v h1 h2 => by omega⟩ ?_
  · (repeat (first | exact Env.Sub.nil | refine Env.Sub.cons rfl ?_))
  rintro j r ds m' H' ⟨w, rfl, h1, h2, rfl, rfl, rfl, rfl, hno⟩
  (try (refine st_R5_1 ?_; intros))
  (first | refine c_ways (fun h3 => ?_) (fun h3 => ?_) | refine c_nways (fun h3 => ?_) (fun h3 => ?_) | refine w_gways (fun h3 => ?_) (fun h3 => ?_) | refine w_gnways (fun h3 => ?_) (fun h3 => ?_))
  · (try (refine st_R5_1 ?_; intros))
    (first | refine c_ways (fun h4 => ?_) (fun h4 => ?_) | refine c_nways (fun h4 => ?_) (fun h4 => ?_) | refine w_gways (fun h4 => ?_) (fun h4 => ?_) | refine w_gnways (fun h4 => ?_) (fun h4 => ?_))
    · cases hb : (readP l (l.length - w)).b with
      | true =>
        (try (refine st_R5_1 ?_; intros))
        refine WL.rename 25 (u := .bool false) rfl (by rw [hb]; rfl) ?_
        (try (refine st_R5_1 ?_; intros))
        exact WQ.next (5 - (w + 1)) ⟨w + 1, rfl, by omega, by omega, rfl, rfl, rfl, rfl, fun v g1 g2 g3 => by
          rcases Nat.lt_or_ge v w with g | g
          · exact hno v g1 g g3
          · obtain rfl : v = w := by omega
            exact fun h => by rw [hb] at h; exact absurd h.1 (by simp)⟩ (by omega) (by (repeat (first | exact Env.Sub.nil | refine Env.Sub.cons rfl ?_))) (fun w h => h.drop)
      | false =>
        (try (refine st_R5_1 ?_; intros))
        refine WL.rename 25 (u := .bool true) rfl (by rw [hb]; rfl) ?_
        (try (refine st_R5_1 ?_; intros))
        (first | refine c_ways (fun h5 => ?_) (fun h5 => ?_) | refine c_nways (fun h5 => ?_) (fun h5 => ?_) | refine w_gways (fun h5 => ?_) (fun h5 => ?_) | refine w_gnways (fun h5 => ?_) (fun h5 => ?_))
        · (try (refine st_R5_1 ?_; intros))
          (refine q_fin0 ?_)
          rw [lastP_whole (w := w) (by omega) (by omega) hb (by omega)]
          exact Gives.mk rfl
        · (try (refine st_R5_1 ?_; intros))
          exact WQ.next (5 - (w + 1)) ⟨w + 1, rfl, by omega, by omega, rfl, rfl, rfl, rfl, fun v g1 g2 g3 => by
          rcases Nat.lt_or_ge v w with g | g
          · exact hno v g1 g g3
          · obtain rfl : v = w := by omega
            exact fun h => h5 (by rw [h.2])⟩ (by omega) (by (repeat (first | exact Env.Sub.nil | refine Env.Sub.cons rfl ?_))) (fun w h => h.drop)
    · (try (refine st_R5_1 ?_; intros))
      (refine q_fin0 ?_)
      rw [← lastP_one h0 (fun v g1 g2 g3 => hno v g1 (by omega) g3)]
      exact Gives.mk rfl
  · (try (refine st_R5_1 ?_; intros))
    (refine q_fin0 ?_)
    rw [← lastP_one h0 (fun v g1 g2 g3 => hno v g1 (by omega) g3)]
    exact Gives.mk rfl
theorem last_z {v : Value} {l : List UInt8} (hv : v = str l) (hl : l.length ≤ 9223372036854775804) (h0 : 0 < l.length) (w0 : World) (m : Mem) (H : SHeap) :
    Does Try.prog 69 #[v] w0 m H (Gives (lastP l).v m H) := by subst hv; exact last_any l hl h0 w0 m H
theorem sq_R5_2 {G : Prop} (h : G := by (repeat (first | (refine sp ?_; (repeat intro zzc)) | (refine iF 67 rfl ?_; refine w_callG Try.func67 ?_ (hs := read_z _ (by (first | with_reducible exact natz _ | with_reducible exact natz0 | with_reducible exact natz1 | with_reducible exact natz2 | with_reducible exact natz3 | with_reducible exact natz4 | with_reducible exact natz8 | (apply natz_add; (· first | with_reducible exact natz _ | with_reducible exact natz0 | with_reducible exact natz1 | with_reducible exact natz2 | with_reducible exact natz3 | with_reducible exact natz4 | with_reducible exact natz8); (· first | with_reducible exact natz _ | with_reducible exact natz0 | with_reducible exact natz1 | with_reducible exact natz2 | with_reducible exact natz3 | with_reducible exact natz4 | with_reducible exact natz8)) | (apply natz_sub; (· first | with_reducible exact natz _ | with_reducible exact natz0 | with_reducible exact natz1 | with_reducible exact natz2 | with_reducible exact natz3 | with_reducible exact natz4 | with_reducible exact natz8); (· first | with_reducible exact natz _ | with_reducible exact natz0 | with_reducible exact natz1 | with_reducible exact natz2 | with_reducible exact natz3 | with_reducible exact natz4 | with_reducible exact natz8); (· omega)) | exact (Int.toNat_of_nonneg (by omega)).symm)) (by omega) (by omega) _ _ _)) | (refine iF 68 rfl ?_; refine w_callG Try.func68 ?_ (hs := form_any _ _ (by omega) (by omega) _ _ _)) | (refine iF 69 rfl ?_; refine w_callG Try.func69 ?_ (hs := last_any _ (by simp; omega) (by simp; omega) _ _ _)))); exact WQ.q1 rfl) : G := h
theorem st_R5_2 {G G' : Prop} (next : G') (h : Bx G' → G := by intro zzn; (first | ((refine st ?_; (repeat intro zzc)); (try ((first | (refine iF 67 rfl ?_; refine w_callG Try.func67 ?_ (hs := read_z _ (by (first | with_reducible exact natz _ | with_reducible exact natz0 | with_reducible exact natz1 | with_reducible exact natz2 | with_reducible exact natz3 | with_reducible exact natz4 | with_reducible exact natz8 | (apply natz_add; (· first | with_reducible exact natz _ | with_reducible exact natz0 | with_reducible exact natz1 | with_reducible exact natz2 | with_reducible exact natz3 | with_reducible exact natz4 | with_reducible exact natz8); (· first | with_reducible exact natz _ | with_reducible exact natz0 | with_reducible exact natz1 | with_reducible exact natz2 | with_reducible exact natz3 | with_reducible exact natz4 | with_reducible exact natz8)) | (apply natz_sub; (· first | with_reducible exact natz _ | with_reducible exact natz0 | with_reducible exact natz1 | with_reducible exact natz2 | with_reducible exact natz3 | with_reducible exact natz4 | with_reducible exact natz8); (· first | with_reducible exact natz _ | with_reducible exact natz0 | with_reducible exact natz1 | with_reducible exact natz2 | with_reducible exact natz3 | with_reducible exact natz4 | with_reducible exact natz8); (· omega)) | exact (Int.toNat_of_nonneg (by omega)).symm)) (by omega) (by omega) _ _ _)) | (refine iF 68 rfl ?_; refine w_callG Try.func68 ?_ (hs := form_any _ _ (by omega) (by omega) _ _ _)) | (refine iF 69 rfl ?_; refine w_callG Try.func69 ?_ (hs := last_any _ (by simp; omega) (by simp; omega) _ _ _)) | ((refine iDraw ?_; (first | refine WC.drawAll rfl (by decide +kernel) ?_ | refine WC.draw 1 rfl (by decide +kernel) ?_ | refine WC.draw 2 rfl (by decide +kernel) ?_ | refine WC.draw 3 rfl (by decide +kernel) ?_ | refine WC.draw 4 rfl (by decide +kernel) ?_ | refine WC.draw 5 rfl (by decide +kernel) ?_ | refine WC.draw 6 rfl (by decide +kernel) ?_ | refine WC.draw 7 rfl (by decide +kernel) ?_ | refine WC.draw 8 rfl (by decide +kernel) ?_ | refine WC.draw 9 rfl (by decide +kernel) ?_ | refine WC.draw 10 rfl (by decide +kernel) ?_ | refine WC.draw 11 rfl (by decide +kernel) ?_ | refine WC.draw 12 rfl (by decide +kernel) ?_ | refine WC.draw 13 rfl (by decide +kernel) ?_ | refine WC.draw 14 rfl (by decide +kernel) ?_ | refine WC.draw 15 rfl (by decide +kernel) ?_ | refine WC.draw 16 rfl (by decide +kernel) ?_ | refine WC.draw 17 rfl (by decide +kernel) ?_ | refine WC.draw 18 rfl (by decide +kernel) ?_ | refine WC.draw 19 rfl (by decide +kernel) ?_ | refine WC.draw 20 rfl (by decide +kernel) ?_ | refine WC.draw 21 rfl (by decide +kernel) ?_ | refine WC.draw 22 rfl (by decide +kernel) ?_ | refine WC.draw 23 rfl (by decide +kernel) ?_ | refine WC.draw 24 rfl (by decide +kernel) ?_)); (repeat (refine WD.cons rfl (fun c h => by cases h) sq_R5_2 ?_)); refine WD.nil ?_)); (try (refine st ?_; (repeat intro zzc)))))) | ((first | (refine iF 67 rfl ?_; refine w_callG Try.func67 ?_ (hs := read_z _ (by (first | with_reducible exact natz _ | with_reducible exact natz0 | with_reducible exact natz1 | with_reducible exact natz2 | with_reducible exact natz3 | with_reducible exact natz4 | with_reducible exact natz8 | (apply natz_add; (· first | with_reducible exact natz _ | with_reducible exact natz0 | with_reducible exact natz1 | with_reducible exact natz2 | with_reducible exact natz3 | with_reducible exact natz4 | with_reducible exact natz8); (· first | with_reducible exact natz _ | with_reducible exact natz0 | with_reducible exact natz1 | with_reducible exact natz2 | with_reducible exact natz3 | with_reducible exact natz4 | with_reducible exact natz8)) | (apply natz_sub; (· first | with_reducible exact natz _ | with_reducible exact natz0 | with_reducible exact natz1 | with_reducible exact natz2 | with_reducible exact natz3 | with_reducible exact natz4 | with_reducible exact natz8); (· first | with_reducible exact natz _ | with_reducible exact natz0 | with_reducible exact natz1 | with_reducible exact natz2 | with_reducible exact natz3 | with_reducible exact natz4 | with_reducible exact natz8); (· omega)) | exact (Int.toNat_of_nonneg (by omega)).symm)) (by omega) (by omega) _ _ _)) | (refine iF 68 rfl ?_; refine w_callG Try.func68 ?_ (hs := form_any _ _ (by omega) (by omega) _ _ _)) | (refine iF 69 rfl ?_; refine w_callG Try.func69 ?_ (hs := last_any _ (by simp; omega) (by simp; omega) _ _ _)) | ((refine iDraw ?_; (first | refine WC.drawAll rfl (by decide +kernel) ?_ | refine WC.draw 1 rfl (by decide +kernel) ?_ | refine WC.draw 2 rfl (by decide +kernel) ?_ | refine WC.draw 3 rfl (by decide +kernel) ?_ | refine WC.draw 4 rfl (by decide +kernel) ?_ | refine WC.draw 5 rfl (by decide +kernel) ?_ | refine WC.draw 6 rfl (by decide +kernel) ?_ | refine WC.draw 7 rfl (by decide +kernel) ?_ | refine WC.draw 8 rfl (by decide +kernel) ?_ | refine WC.draw 9 rfl (by decide +kernel) ?_ | refine WC.draw 10 rfl (by decide +kernel) ?_ | refine WC.draw 11 rfl (by decide +kernel) ?_ | refine WC.draw 12 rfl (by decide +kernel) ?_ | refine WC.draw 13 rfl (by decide +kernel) ?_ | refine WC.draw 14 rfl (by decide +kernel) ?_ | refine WC.draw 15 rfl (by decide +kernel) ?_ | refine WC.draw 16 rfl (by decide +kernel) ?_ | refine WC.draw 17 rfl (by decide +kernel) ?_ | refine WC.draw 18 rfl (by decide +kernel) ?_ | refine WC.draw 19 rfl (by decide +kernel) ?_ | refine WC.draw 20 rfl (by decide +kernel) ?_ | refine WC.draw 21 rfl (by decide +kernel) ?_ | refine WC.draw 22 rfl (by decide +kernel) ?_ | refine WC.draw 23 rfl (by decide +kernel) ?_ | refine WC.draw 24 rfl (by decide +kernel) ?_)); (repeat (refine WD.cons rfl (fun c h => by cases h) sq_R5_2 ?_)); refine WD.nil ?_)); (try (refine st ?_; (repeat intro zzc))))); (repeat ((first | (refine iF 67 rfl ?_; refine w_callG Try.func67 ?_ (hs := read_z _ (by (first | with_reducible exact natz _ | with_reducible exact natz0 | with_reducible exact natz1 | with_reducible exact natz2 | with_reducible exact natz3 | with_reducible exact natz4 | with_reducible exact natz8 | (apply natz_add; (· first | with_reducible exact natz _ | with_reducible exact natz0 | with_reducible exact natz1 | with_reducible exact natz2 | with_reducible exact natz3 | with_reducible exact natz4 | with_reducible exact natz8); (· first | with_reducible exact natz _ | with_reducible exact natz0 | with_reducible exact natz1 | with_reducible exact natz2 | with_reducible exact natz3 | with_reducible exact natz4 | with_reducible exact natz8)) | (apply natz_sub; (· first | with_reducible exact natz _ | with_reducible exact natz0 | with_reducible exact natz1 | with_reducible exact natz2 | with_reducible exact natz3 | with_reducible exact natz4 | with_reducible exact natz8); (· first | with_reducible exact natz _ | with_reducible exact natz0 | with_reducible exact natz1 | with_reducible exact natz2 | with_reducible exact natz3 | with_reducible exact natz4 | with_reducible exact natz8); (· omega)) | exact (Int.toNat_of_nonneg (by omega)).symm)) (by omega) (by omega) _ _ _)) | (refine iF 68 rfl ?_; refine w_callG Try.func68 ?_ (hs := form_any _ _ (by omega) (by omega) _ _ _)) | (refine iF 69 rfl ?_; refine w_callG Try.func69 ?_ (hs := last_any _ (by simp; omega) (by simp; omega) _ _ _)) | ((refine iDraw ?_; (first | refine WC.drawAll rfl (by decide +kernel) ?_ | refine WC.draw 1 rfl (by decide +kernel) ?_ | refine WC.draw 2 rfl (by decide +kernel) ?_ | refine WC.draw 3 rfl (by decide +kernel) ?_ | refine WC.draw 4 rfl (by decide +kernel) ?_ | refine WC.draw 5 rfl (by decide +kernel) ?_ | refine WC.draw 6 rfl (by decide +kernel) ?_ | refine WC.draw 7 rfl (by decide +kernel) ?_ | refine WC.draw 8 rfl (by decide +kernel) ?_ | refine WC.draw 9 rfl (by decide +kernel) ?_ | refine WC.draw 10 rfl (by decide +kernel) ?_ | refine WC.draw 11 rfl (by decide +kernel) ?_ | refine WC.draw 12 rfl (by decide +kernel) ?_ | refine WC.draw 13 rfl (by decide +kernel) ?_ | refine WC.draw 14 rfl (by decide +kernel) ?_ | refine WC.draw 15 rfl (by decide +kernel) ?_ | refine WC.draw 16 rfl (by decide +kernel) ?_ | refine WC.draw 17 rfl (by decide +kernel) ?_ | refine WC.draw 18 rfl (by decide +kernel) ?_ | refine WC.draw 19 rfl (by decide +kernel) ?_ | refine WC.draw 20 rfl (by decide +kernel) ?_ | refine WC.draw 21 rfl (by decide +kernel) ?_ | refine WC.draw 22 rfl (by decide +kernel) ?_ | refine WC.draw 23 rfl (by decide +kernel) ?_ | refine WC.draw 24 rfl (by decide +kernel) ?_)); (repeat (refine WD.cons rfl (fun c h => by cases h) sq_R5_2 ?_)); refine WD.nil ?_)); (try (refine st ?_; (repeat intro zzc))))); (repeat revert zzc); exact zzn.out) : G := h ⟨next⟩
theorem before_in (l : List UInt8) (k : Nat) (hl : l.length ≤ 9223372036854775804) (h1 : 1 ≤ k) (hk : k ≤ l.length) (w0 : World) (m : Mem) (H : SHeap) :
    Does Try.prog 18 #[str l, .int .i64 (k : Int)] w0 m H (Gives (.tuple #[(lastP (l.take k)).v, .int .i64 0]) m H) := by
  refine Does.of_body (args := [str l, .int .i64 (k : Int)]) Try.func18 rfl Try.ntmps18 rfl ?_
  (try (refine st_R5_2 ?_; intros))
  (refine q_fin0 ?_)
  exact Gives.mk rfl
theorem before_out (l : List UInt8) (k : Int) (hk : k < 1 ∨ (l.length : Int) < k) (w0 : World) (m : Mem) (H : SHeap) :
    Does Try.prog 18 #[str l, .int .i64 k] w0 m H (Gives (.tuple #[zeroP, .int .i64 5]) m H) := by
  refine Does.of_body (args := [str l, .int .i64 k]) Try.func18 rfl Try.ntmps18 rfl ?_
  (repeat' (first | (refine st_R5_2 ?_; intros) | (first | refine c_ways (fun h1 => ?_) (fun h1 => ?_) | refine c_nways (fun h1 => ?_) (fun h1 => ?_) | refine w_gways (fun h1 => ?_) (fun h1 => ?_) | refine w_gnways (fun h1 => ?_) (fun h1 => ?_))))
  all_goals ((refine q_fin0 ?_); exact Gives.mk rfl)
end Go.Proofs.Ytdmdabjaboigcaa

/-
  The walks of package runes and of its reference, sixth part: the reference's pieces; how many pieces a text has. No condition.
-/
namespace Go.Proofs.Ytdmdabjaboigcaa
open Go Go.Eng
set_option maxRecDepth 100000
set_option maxHeartbeats 4000000
set_option linter.all false
attribute [local irreducible] WL WC WQ QFun QLoop Does Q1 QRound QAssign Go.Addr.add
theorem sq_R6_1 {G : Prop} (h : G := by (repeat (first | (refine sp ?_; (repeat intro zzc)) | (refine iF 17 rfl ?_; refine w_callG Try.func17 ?_ (hs := refAt_any _ _ (by omega) (by omega) _ _ _)))); exact WQ.q1 rfl) : G := h
theorem st_R6_1 {G G' : Prop} (next : G') (h : Bx G' → G := by intro zzn; (first | ((refine st ?_; (repeat intro zzc)); (try ((first | (refine iF 17 rfl ?_; refine w_callG Try.func17 ?_ (hs := refAt_any _ _ (by omega) (by omega) _ _ _)) | ((refine iDraw ?_; (first | refine WC.drawAll rfl (by decide +kernel) ?_ | refine WC.draw 1 rfl (by decide +kernel) ?_ | refine WC.draw 2 rfl (by decide +kernel) ?_ | refine WC.draw 3 rfl (by decide +kernel) ?_ | refine WC.draw 4 rfl (by decide +kernel) ?_ | refine WC.draw 5 rfl (by decide +kernel) ?_ | refine WC.draw 6 rfl (by decide +kernel) ?_ | refine WC.draw 7 rfl (by decide +kernel) ?_ | refine WC.draw 8 rfl (by decide +kernel) ?_ | refine WC.draw 9 rfl (by decide +kernel) ?_ | refine WC.draw 10 rfl (by decide +kernel) ?_ | refine WC.draw 11 rfl (by decide +kernel) ?_ | refine WC.draw 12 rfl (by decide +kernel) ?_ | refine WC.draw 13 rfl (by decide +kernel) ?_ | refine WC.draw 14 rfl (by decide +kernel) ?_ | refine WC.draw 15 rfl (by decide +kernel) ?_ | refine WC.draw 16 rfl (by decide +kernel) ?_ | refine WC.draw 17 rfl (by decide +kernel) ?_ | refine WC.draw 18 rfl (by decide +kernel) ?_ | refine WC.draw 19 rfl (by decide +kernel) ?_ | refine WC.draw 20 rfl (by decide +kernel) ?_ | refine WC.draw 21 rfl (by decide +kernel) ?_ | refine WC.draw 22 rfl (by decide +kernel) ?_ | refine WC.draw 23 rfl (by decide +kernel) ?_ | refine WC.draw 24 rfl (by decide +kernel) ?_)); (repeat (refine WD.cons rfl (fun c h => by cases h) sq_R6_1 ?_)); refine WD.nil ?_)); (try (refine st ?_; (repeat intro zzc)))))) | ((first | (refine iF 17 rfl ?_; refine w_callG Try.func17 ?_ (hs := refAt_any _ _ (by omega) (by omega) _ _ _)) | ((refine iDraw ?_; (first | refine WC.drawAll rfl (by decide +kernel) ?_ | refine WC.draw 1 rfl (by decide +kernel) ?_ | refine WC.draw 2 rfl (by decide +kernel) ?_ | refine WC.draw 3 rfl (by decide +kernel) ?_ | refine WC.draw 4 rfl (by decide +kernel) ?_ | refine WC.draw 5 rfl (by decide +kernel) ?_ | refine WC.draw 6 rfl (by decide +kernel) ?_ | refine WC.draw 7 rfl (by decide +kernel) ?_ | refine WC.draw 8 rfl (by decide +kernel) ?_ | refine WC.draw 9 rfl (by decide +kernel) ?_ | refine WC.draw 10 rfl (by decide +kernel) ?_ | refine WC.draw 11 rfl (by decide +kernel) ?_ | refine WC.draw 12 rfl (by decide +kernel) ?_ | refine WC.draw 13 rfl (by decide +kernel) ?_ | refine WC.draw 14 rfl (by decide +kernel) ?_ | refine WC.draw 15 rfl (by decide +kernel) ?_ | refine WC.draw 16 rfl (by decide +kernel) ?_ | refine WC.draw 17 rfl (by decide +kernel) ?_ | refine WC.draw 18 rfl (by decide +kernel) ?_ | refine WC.draw 19 rfl (by decide +kernel) ?_ | refine WC.draw 20 rfl (by decide +kernel) ?_ | refine WC.draw 21 rfl (by decide +kernel) ?_ | refine WC.draw 22 rfl (by decide +kernel) ?_ | refine WC.draw 23 rfl (by decide +kernel) ?_ | refine WC.draw 24 rfl (by decide +kernel) ?_)); (repeat (refine WD.cons rfl (fun c h => by cases h) sq_R6_1 ?_)); refine WD.nil ?_)); (try (refine st ?_; (repeat intro zzc))))); (repeat ((first | (refine iF 17 rfl ?_; refine w_callG Try.func17 ?_ (hs := refAt_any _ _ (by omega) (by omega) _ _ _)) | ((refine iDraw ?_; (first | refine WC.drawAll rfl (by decide +kernel) ?_ | refine WC.draw 1 rfl (by decide +kernel) ?_ | refine WC.draw 2 rfl (by decide +kernel) ?_ | refine WC.draw 3 rfl (by decide +kernel) ?_ | refine WC.draw 4 rfl (by decide +kernel) ?_ | refine WC.draw 5 rfl (by decide +kernel) ?_ | refine WC.draw 6 rfl (by decide +kernel) ?_ | refine WC.draw 7 rfl (by decide +kernel) ?_ | refine WC.draw 8 rfl (by decide +kernel) ?_ | refine WC.draw 9 rfl (by decide +kernel) ?_ | refine WC.draw 10 rfl (by decide +kernel) ?_ | refine WC.draw 11 rfl (by decide +kernel) ?_ | refine WC.draw 12 rfl (by decide +kernel) ?_ | refine WC.draw 13 rfl (by decide +kernel) ?_ | refine WC.draw 14 rfl (by decide +kernel) ?_ | refine WC.draw 15 rfl (by decide +kernel) ?_ | refine WC.draw 16 rfl (by decide +kernel) ?_ | refine WC.draw 17 rfl (by decide +kernel) ?_ | refine WC.draw 18 rfl (by decide +kernel) ?_ | refine WC.draw 19 rfl (by decide +kernel) ?_ | refine WC.draw 20 rfl (by decide +kernel) ?_ | refine WC.draw 21 rfl (by decide +kernel) ?_ | refine WC.draw 22 rfl (by decide +kernel) ?_ | refine WC.draw 23 rfl (by decide +kernel) ?_ | refine WC.draw 24 rfl (by decide +kernel) ?_)); (repeat (refine WD.cons rfl (fun c h => by cases h) sq_R6_1 ?_)); refine WD.nil ?_)); (try (refine st ?_; (repeat intro zzc))))); (repeat revert zzc); exact zzn.out) : G := h ⟨next⟩
theorem from_length (l : List UInt8) : ∀ d k, l.length - k ≤ d → (from_ l k).length ≤ l.length - k
  | 0, k, h => by rw [from_nil (by omega)]; simp
  | d + 1, k, h => by
    by_cases hk : k < l.length
    · have hw := readP_w hk
      rw [from_cons hk, List.length_cons]
      have := from_length l d (k + (readP l k).w) (by omega)
      omega
    · rw [from_nil hk]; simp
theorem pieces_length (l : List UInt8) : (pieces l).length ≤ l.length := from_length l l.length 0 (by omega)
theorem refPieces_any (l : List UInt8) (hl : l.length ≤ 5000000000000) (w0 : World) (m : Mem) (H : SHeap) :
    Does Try.prog 19 #[str l] w0 m H (MakesRow 24 4 ((pieces l).map Pc.cs) m H) := by
  refine Does.of_body (args := [str l]) Try.func19 rfl Try.ntmps19 rfl ?_
  have hpl := pieces_length l
  (try (refine st_R6_1 ?_; intros))
  refine WC.newRow (T := 24) (sz := 4) ?_
  refine WC.loopW [(4, .int .i64 0), (0, str l), (3, .slice none 0 0)] ?_ (fun j r ds m' H' => ∃ k a cap pre, j = l.length - k ∧ r = [(4, .int .i64 (k : Int)), (0, str l), (3, .slice a pre.length cap)] ∧ ds = [] ∧ m' = m ∧ H' = .row a cap 24 4 (pre.map Pc.cs) :: H ∧ pieces l = pre ++ from_ l k ∧ k ≤ l.length) l.length
    ⟨0, none, 0, [], rfl, rfl, rfl, rfl, rfl, rfl, by omega⟩ ?_
  · (repeat (first | exact Env.Sub.nil | refine Env.Sub.cons rfl ?_))
  rintro j r ds m' H' ⟨k, a, cap, pre, rfl, rfl, rfl, rfl, rfl, hp, hk⟩
  have hpre : pre.length ≤ l.length := by have := congrArg List.length hp; simp at this; omega
  (try (refine st_R6_1 ?_; intros))
  (first | refine c_ways (fun h1 => ?_) (fun h1 => ?_) | refine c_nways (fun h1 => ?_) (fun h1 => ?_) | refine w_gways (fun h1 => ?_) (fun h1 => ?_) | refine w_gnways (fun h1 => ?_) (fun h1 => ?_))
  · have hw := readP_w (l := l) (k := k) (by omega)
    (refine st_R6_1 ?_; intros; rename_i ak ck)
    refine WQ.next (l.length - (k + (readP l k).w)) ⟨k + (readP l k).w, ak, ck, pre ++ [readP l k], rfl, rfl, rfl, rfl, rfl, by rw [hp, from_cons (by omega)]; simp, by omega⟩ (by omega) ?_ ?_
    · rw [show (pre ++ [readP l k]).length = (List.map Pc.cs pre).length + 1 by simp]
      (repeat (first | exact Env.Sub.nil | refine Env.Sub.cons rfl ?_))
    · rw [List.map_append]
      exact (fun w h => h.sublist (by repeat (first | exact List.Sublist.refl _ | apply List.Sublist.cons_cons | apply List.Sublist.cons)))
  · have hpe : pieces l = pre := by rw [hp, from_nil (by omega), List.append_nil]
    (try (refine st_R6_1 ?_; intros))
    (refine q_fin ?_)
    rw [hpe]
    exact ⟨a, cap, by rw [List.length_map], rfl, rfl⟩
end Go.Proofs.Ytdmdabjaboigcaa

/-
  The walks of package runes, seventh part: how many pieces a text has; whether this law wakes. No condition.
-/
namespace Go.Proofs.Ytdmdabjaboigcaa
open Go Go.Eng
set_option maxRecDepth 100000
set_option maxHeartbeats 4000000
set_option linter.all false
attribute [local irreducible] WL WC WQ QFun QLoop Does Q1 QRound QAssign Go.Addr.add
def nBroken (ps : List Pc) : Nat := (ps.filter fun p => p.b).length
theorem count_any (l : List UInt8) (hl : l.length ≤ 5000000000000) (w0 : World) (m : Mem) (H : SHeap) :
    Does Try.prog 21 #[str l] w0 m H (Gives (.tuple #[.int .i64 ((pieces l).length : Int), .int .i64 (nBroken (pieces l) : Int)]) m H) := by
  refine Does.of_body (args := [str l]) Try.func21 rfl Try.ntmps21 rfl ?_
  (try (refine st ?_; intros))
  refine w_callF Try.func38 ?_ (hs := pieces_any _ _ _ _)
  rintro _ m0 H0 ⟨b, rfl, rfl, rfl⟩
  (refine st ?_; intros; rename_i b4 bk)
  refine WC.persist (by (repeat (first | exact Out.here | apply Out.there))) ?_
  intro mp hle hb
  have hsnoc : ∀ (pre : List Pc) (x : Pc), nBroken (pre ++ [x]) = nBroken pre + (if x.b then 1 else 0) := fun pre x => by
    unfold nBroken; rw [List.filter_append, List.length_append]; cases hx : x.b <;> simp [hx]
  have hle2 : ∀ pre : List Pc, nBroken pre ≤ pre.length := fun pre => List.length_filter_le _ _
  have hpl := pieces_length l
  apply WC.rangeFunc (encs := fun p : Pc => [p.v]) (xs := pieces l) (Cap := TextAt b l) (lb := [.pointer (some ⟨b, 0, none⟩)]) (ps := [9])
    (J := fun pre m' Hl => Hl = [.blk bk (.cells [.int .i64 (nBroken pre : Int)].toArray 3 (0, 0)), .blk b4 (.cells [.int .i64 (pre.length : Int)].toArray 3 (0, 0))]) (Jx := fun _ _ _ _ => False)
  · exact rfl
  · exact Try.func74
  · exact rfl
  · exact rfl
  · exact pieces_seq l (by omega) b
  · exact hb
  · exact fun _ => rfl
  · exact rfl
  · exact .cons (.cons .nil)
  · exact rfl
  · intro lp pre x post hxs m1 Hl hJ hm1 Hfr hfr
    subst hJ
    have hpre : pre.length ≤ (pieces l).length := by rw [hxs]; simp
    have hle3 := hle2 pre
    have hsn := hsnoc pre x
    (try (refine st ?_; intros))
    refine WQ.assigned (.cons (.cons (.cons .nil))) (Mem.le.refl _) ?_
    intro Hfr2
    cases hx : x.b with
    | true =>
      rw [hx] at hsn
      (try (refine st ?_; intros))
      exact WQ.roundOn (Hl := [_, _]) (fun w h => h.drop) (Mem.le.refl _) (by rw [hsn, List.length_append]; rfl)
    | false =>
      rw [hx] at hsn
      (try (refine st ?_; intros))
      exact WQ.roundOn (Hl := [_, _]) (fun w h => h.drop) (Mem.le.refl _) (by rw [hsn, List.length_append]; rfl)
  · intro D m' Hl hJ hm1
    subst hJ
    (try (refine st ?_; intros))
    refine WQ.mark List.perm_middle ?_
    (refine q_fin1 (hle.trans hm1) ?_)
    exact Gives.mk rfl
  · intro D c pre m' Hl _ h _
    exact h.elim
theorem eq_piece (a b c a' b' c' : Int) (d d' : Bool) : eqB Try.prog 8 24 (.agg #[.int .i64 a, .int .i64 b, .int .i32 c, .bool d]) (.agg #[.int .i64 a', .int .i64 b', .int .i32 c', .bool d']) = some (dcd (a = a' ∧ b = b' ∧ c = c' ∧ d = d')) := by
  have h : eqB Try.prog 8 24 (.agg #[.int .i64 a, .int .i64 b, .int .i32 c, .bool d]) (.agg #[.int .i64 a', .int .i64 b', .int .i32 c', .bool d']) = some (a == a' && (b == b' && (c == c' && (d == d' && true)))) := by kernel_rfl
  rw [h]
  by_cases hp : a = a' ∧ b = b' ∧ c = c' ∧ d = d'
  · rw [dcd_true hp]; obtain ⟨rfl, rfl, rfl, rfl⟩ := hp; simp
  · rw [dcd_false hp]
    simp only [Bool.and_true, Option.some.injEq, Bool.and_eq_false_iff, beq_eq_false_iff_ne]
    by_cases h1 : a = a' <;> by_cases h2 : b = b' <;> by_cases h3 : c = c' <;> by_cases h4 : d = d' <;> simp_all
theorem sq_R7_1 {G : Prop} (h : G := by (repeat (first | (refine sp ?_; (repeat intro zzc)) | (refine iB_eql rfl ?_; refine w_eqlV ?_ (he := eq_piece _ _ _ _ _ _ _ _)) | (refine iB_neq rfl ?_; refine w_neqV ?_ (he := eq_piece _ _ _ _ _ _ _ _)) | (refine iF 21 rfl ?_; refine w_callG Try.func21 ?_ (hs := count_any _ (by decide) _ _ _)) | (refine iF 16 rfl ?_; refine w_callG Try.func16 ?_ (hs := at_in _ _ (by decide) (by decide) _ _ _)))); exact WQ.q1 rfl) : G := h
theorem st_R7_1 {G G' : Prop} (next : G') (h : Bx G' → G := by intro zzn; (first | ((refine st ?_; (repeat intro zzc)); (try ((first | (refine iB_eql rfl ?_; refine w_eqlV ?_ (he := eq_piece _ _ _ _ _ _ _ _)) | (refine iB_neq rfl ?_; refine w_neqV ?_ (he := eq_piece _ _ _ _ _ _ _ _)) | (refine iF 21 rfl ?_; refine w_callG Try.func21 ?_ (hs := count_any _ (by decide) _ _ _)) | (refine iF 16 rfl ?_; refine w_callG Try.func16 ?_ (hs := at_in _ _ (by decide) (by decide) _ _ _)) | ((refine iDraw ?_; (first | refine WC.drawAll rfl (by decide +kernel) ?_ | refine WC.draw 1 rfl (by decide +kernel) ?_ | refine WC.draw 2 rfl (by decide +kernel) ?_ | refine WC.draw 3 rfl (by decide +kernel) ?_ | refine WC.draw 4 rfl (by decide +kernel) ?_ | refine WC.draw 5 rfl (by decide +kernel) ?_ | refine WC.draw 6 rfl (by decide +kernel) ?_ | refine WC.draw 7 rfl (by decide +kernel) ?_ | refine WC.draw 8 rfl (by decide +kernel) ?_ | refine WC.draw 9 rfl (by decide +kernel) ?_ | refine WC.draw 10 rfl (by decide +kernel) ?_ | refine WC.draw 11 rfl (by decide +kernel) ?_ | refine WC.draw 12 rfl (by decide +kernel) ?_ | refine WC.draw 13 rfl (by decide +kernel) ?_ | refine WC.draw 14 rfl (by decide +kernel) ?_ | refine WC.draw 15 rfl (by decide +kernel) ?_ | refine WC.draw 16 rfl (by decide +kernel) ?_ | refine WC.draw 17 rfl (by decide +kernel) ?_ | refine WC.draw 18 rfl (by decide +kernel) ?_ | refine WC.draw 19 rfl (by decide +kernel) ?_ | refine WC.draw 20 rfl (by decide +kernel) ?_ | refine WC.draw 21 rfl (by decide +kernel) ?_ | refine WC.draw 22 rfl (by decide +kernel) ?_ | refine WC.draw 23 rfl (by decide +kernel) ?_ | refine WC.draw 24 rfl (by decide +kernel) ?_)); (repeat (refine WD.cons rfl (fun c h => by cases h) sq_R7_1 ?_)); refine WD.nil ?_)); (try (refine st ?_; (repeat intro zzc)))))) | ((first | (refine iB_eql rfl ?_; refine w_eqlV ?_ (he := eq_piece _ _ _ _ _ _ _ _)) | (refine iB_neq rfl ?_; refine w_neqV ?_ (he := eq_piece _ _ _ _ _ _ _ _)) | (refine iF 21 rfl ?_; refine w_callG Try.func21 ?_ (hs := count_any _ (by decide) _ _ _)) | (refine iF 16 rfl ?_; refine w_callG Try.func16 ?_ (hs := at_in _ _ (by decide) (by decide) _ _ _)) | ((refine iDraw ?_; (first | refine WC.drawAll rfl (by decide +kernel) ?_ | refine WC.draw 1 rfl (by decide +kernel) ?_ | refine WC.draw 2 rfl (by decide +kernel) ?_ | refine WC.draw 3 rfl (by decide +kernel) ?_ | refine WC.draw 4 rfl (by decide +kernel) ?_ | refine WC.draw 5 rfl (by decide +kernel) ?_ | refine WC.draw 6 rfl (by decide +kernel) ?_ | refine WC.draw 7 rfl (by decide +kernel) ?_ | refine WC.draw 8 rfl (by decide +kernel) ?_ | refine WC.draw 9 rfl (by decide +kernel) ?_ | refine WC.draw 10 rfl (by decide +kernel) ?_ | refine WC.draw 11 rfl (by decide +kernel) ?_ | refine WC.draw 12 rfl (by decide +kernel) ?_ | refine WC.draw 13 rfl (by decide +kernel) ?_ | refine WC.draw 14 rfl (by decide +kernel) ?_ | refine WC.draw 15 rfl (by decide +kernel) ?_ | refine WC.draw 16 rfl (by decide +kernel) ?_ | refine WC.draw 17 rfl (by decide +kernel) ?_ | refine WC.draw 18 rfl (by decide +kernel) ?_ | refine WC.draw 19 rfl (by decide +kernel) ?_ | refine WC.draw 20 rfl (by decide +kernel) ?_ | refine WC.draw 21 rfl (by decide +kernel) ?_ | refine WC.draw 22 rfl (by decide +kernel) ?_ | refine WC.draw 23 rfl (by decide +kernel) ?_ | refine WC.draw 24 rfl (by decide +kernel) ?_)); (repeat (refine WD.cons rfl (fun c h => by cases h) sq_R7_1 ?_)); refine WD.nil ?_)); (try (refine st ?_; (repeat intro zzc))))); (repeat ((first | (refine iB_eql rfl ?_; refine w_eqlV ?_ (he := eq_piece _ _ _ _ _ _ _ _)) | (refine iB_neq rfl ?_; refine w_neqV ?_ (he := eq_piece _ _ _ _ _ _ _ _)) | (refine iF 21 rfl ?_; refine w_callG Try.func21 ?_ (hs := count_any _ (by decide) _ _ _)) | (refine iF 16 rfl ?_; refine w_callG Try.func16 ?_ (hs := at_in _ _ (by decide) (by decide) _ _ _)) | ((refine iDraw ?_; (first | refine WC.drawAll rfl (by decide +kernel) ?_ | refine WC.draw 1 rfl (by decide +kernel) ?_ | refine WC.draw 2 rfl (by decide +kernel) ?_ | refine WC.draw 3 rfl (by decide +kernel) ?_ | refine WC.draw 4 rfl (by decide +kernel) ?_ | refine WC.draw 5 rfl (by decide +kernel) ?_ | refine WC.draw 6 rfl (by decide +kernel) ?_ | refine WC.draw 7 rfl (by decide +kernel) ?_ | refine WC.draw 8 rfl (by decide +kernel) ?_ | refine WC.draw 9 rfl (by decide +kernel) ?_ | refine WC.draw 10 rfl (by decide +kernel) ?_ | refine WC.draw 11 rfl (by decide +kernel) ?_ | refine WC.draw 12 rfl (by decide +kernel) ?_ | refine WC.draw 13 rfl (by decide +kernel) ?_ | refine WC.draw 14 rfl (by decide +kernel) ?_ | refine WC.draw 15 rfl (by decide +kernel) ?_ | refine WC.draw 16 rfl (by decide +kernel) ?_ | refine WC.draw 17 rfl (by decide +kernel) ?_ | refine WC.draw 18 rfl (by decide +kernel) ?_ | refine WC.draw 19 rfl (by decide +kernel) ?_ | refine WC.draw 20 rfl (by decide +kernel) ?_ | refine WC.draw 21 rfl (by decide +kernel) ?_ | refine WC.draw 22 rfl (by decide +kernel) ?_ | refine WC.draw 23 rfl (by decide +kernel) ?_ | refine WC.draw 24 rfl (by decide +kernel) ?_)); (repeat (refine WD.cons rfl (fun c h => by cases h) sq_R7_1 ?_)); refine WD.nil ?_)); (try (refine st ?_; (repeat intro zzc))))); (repeat revert zzc); exact zzn.out) : G := h ⟨next⟩
theorem wakes_any (w0 : World) (m : Mem) (H : SHeap) : Does Try.prog 15 #[] w0 m H (Gives (.bool true) m H) := by
  refine Does.of_body (args := []) Try.func15 rfl Try.ntmps15 rfl ?_
  have e1 : (pieces [97, 195, 169, 255]).length = 3 := by decide
  have e2 : nBroken (pieces [97, 195, 169, 255]) = 1 := by decide
  have e3 : readP [195, 169] 0 = ⟨0, 2, 233, false⟩ := by decide
  (try (refine st_R7_1 ?_; intros))
  (refine q_fin0 ?_)
  rw [dcd_true (by rw [e3]; simp)]
  exact Gives.mk rfl
end Go.Proofs.Ytdmdabjaboigcaa

/-
  The walks of package runes and of its reference, ninth part: boundaries. No condition.
-/
namespace Go.Proofs.Ytdmdabjaboigcaa
open Go Go.Eng
set_option maxRecDepth 100000
set_option maxHeartbeats 4000000
set_option linter.all false
attribute [local irreducible] WL WC WQ QFun QLoop Does Q1 QRound QAssign Go.Addr.add
theorem sq_R9_1 {G : Prop} (h : G := by (repeat (first | (refine sp ?_; (repeat intro zzc)) | (refine iF 67 rfl ?_; refine w_callG Try.func67 ?_ (hs := read_z _ (by (first | with_reducible exact natz _ | with_reducible exact natz0 | with_reducible exact natz1 | with_reducible exact natz2 | with_reducible exact natz3 | with_reducible exact natz4 | with_reducible exact natz8 | (apply natz_add; (· first | with_reducible exact natz _ | with_reducible exact natz0 | with_reducible exact natz1 | with_reducible exact natz2 | with_reducible exact natz3 | with_reducible exact natz4 | with_reducible exact natz8); (· first | with_reducible exact natz _ | with_reducible exact natz0 | with_reducible exact natz1 | with_reducible exact natz2 | with_reducible exact natz3 | with_reducible exact natz4 | with_reducible exact natz8)) | (apply natz_sub; (· first | with_reducible exact natz _ | with_reducible exact natz0 | with_reducible exact natz1 | with_reducible exact natz2 | with_reducible exact natz3 | with_reducible exact natz4 | with_reducible exact natz8); (· first | with_reducible exact natz _ | with_reducible exact natz0 | with_reducible exact natz1 | with_reducible exact natz2 | with_reducible exact natz3 | with_reducible exact natz4 | with_reducible exact natz8); (· omega)) | exact (Int.toNat_of_nonneg (by omega)).symm)) (by omega) (by omega) _ _ _)))); exact WQ.q1 rfl) : G := h
theorem st_R9_1 {G G' : Prop} (next : G') (h : Bx G' → G := by intro zzn; (first | ((refine st ?_; (repeat intro zzc)); (try ((first | (refine iF 67 rfl ?_; refine w_callG Try.func67 ?_ (hs := read_z _ (by (first | with_reducible exact natz _ | with_reducible exact natz0 | with_reducible exact natz1 | with_reducible exact natz2 | with_reducible exact natz3 | with_reducible exact natz4 | with_reducible exact natz8 | (apply natz_add; (· first | with_reducible exact natz _ | with_reducible exact natz0 | with_reducible exact natz1 | with_reducible exact natz2 | with_reducible exact natz3 | with_reducible exact natz4 | with_reducible exact natz8); (· first | with_reducible exact natz _ | with_reducible exact natz0 | with_reducible exact natz1 | with_reducible exact natz2 | with_reducible exact natz3 | with_reducible exact natz4 | with_reducible exact natz8)) | (apply natz_sub; (· first | with_reducible exact natz _ | with_reducible exact natz0 | with_reducible exact natz1 | with_reducible exact natz2 | with_reducible exact natz3 | with_reducible exact natz4 | with_reducible exact natz8); (· first | with_reducible exact natz _ | with_reducible exact natz0 | with_reducible exact natz1 | with_reducible exact natz2 | with_reducible exact natz3 | with_reducible exact natz4 | with_reducible exact natz8); (· omega)) | exact (Int.toNat_of_nonneg (by omega)).symm)) (by omega) (by omega) _ _ _)) | ((refine iDraw ?_; (first | refine WC.drawAll rfl (by decide +kernel) ?_ | refine WC.draw 1 rfl (by decide +kernel) ?_ | refine WC.draw 2 rfl (by decide +kernel) ?_ | refine WC.draw 3 rfl (by decide +kernel) ?_ | refine WC.draw 4 rfl (by decide +kernel) ?_ | refine WC.draw 5 rfl (by decide +kernel) ?_ | refine WC.draw 6 rfl (by decide +kernel) ?_ | refine WC.draw 7 rfl (by decide +kernel) ?_ | refine WC.draw 8 rfl (by decide +kernel) ?_ | refine WC.draw 9 rfl (by decide +kernel) ?_ | refine WC.draw 10 rfl (by decide +kernel) ?_ | refine WC.draw 11 rfl (by decide +kernel) ?_ | refine WC.draw 12 rfl (by decide +kernel) ?_ | refine WC.draw 13 rfl (by decide +kernel) ?_ | refine WC.draw 14 rfl (by decide +kernel) ?_ | refine WC.draw 15 rfl (by decide +kernel) ?_ | refine WC.draw 16 rfl (by decide +kernel) ?_ | refine WC.draw 17 rfl (by decide +kernel) ?_ | refine WC.draw 18 rfl (by decide +kernel) ?_ | refine WC.draw 19 rfl (by decide +kernel) ?_ | refine WC.draw 20 rfl (by decide +kernel) ?_ | refine WC.draw 21 rfl (by decide +kernel) ?_ | refine WC.draw 22 rfl (by decide +kernel) ?_ | refine WC.draw 23 rfl (by decide +kernel) ?_ | refine WC.draw 24 rfl (by decide +kernel) ?_)); (repeat (refine WD.cons rfl (fun c h => by cases h) sq_R9_1 ?_)); refine WD.nil ?_)); (try (refine st ?_; (repeat intro zzc)))))) | ((first | (refine iF 67 rfl ?_; refine w_callG Try.func67 ?_ (hs := read_z _ (by (first | with_reducible exact natz _ | with_reducible exact natz0 | with_reducible exact natz1 | with_reducible exact natz2 | with_reducible exact natz3 | with_reducible exact natz4 | with_reducible exact natz8 | (apply natz_add; (· first | with_reducible exact natz _ | with_reducible exact natz0 | with_reducible exact natz1 | with_reducible exact natz2 | with_reducible exact natz3 | with_reducible exact natz4 | with_reducible exact natz8); (· first | with_reducible exact natz _ | with_reducible exact natz0 | with_reducible exact natz1 | with_reducible exact natz2 | with_reducible exact natz3 | with_reducible exact natz4 | with_reducible exact natz8)) | (apply natz_sub; (· first | with_reducible exact natz _ | with_reducible exact natz0 | with_reducible exact natz1 | with_reducible exact natz2 | with_reducible exact natz3 | with_reducible exact natz4 | with_reducible exact natz8); (· first | with_reducible exact natz _ | with_reducible exact natz0 | with_reducible exact natz1 | with_reducible exact natz2 | with_reducible exact natz3 | with_reducible exact natz4 | with_reducible exact natz8); (· omega)) | exact (Int.toNat_of_nonneg (by omega)).symm)) (by omega) (by omega) _ _ _)) | ((refine iDraw ?_; (first | refine WC.drawAll rfl (by decide +kernel) ?_ | refine WC.draw 1 rfl (by decide +kernel) ?_ | refine WC.draw 2 rfl (by decide +kernel) ?_ | refine WC.draw 3 rfl (by decide +kernel) ?_ | refine WC.draw 4 rfl (by decide +kernel) ?_ | refine WC.draw 5 rfl (by decide +kernel) ?_ | refine WC.draw 6 rfl (by decide +kernel) ?_ | refine WC.draw 7 rfl (by decide +kernel) ?_ | refine WC.draw 8 rfl (by decide +kernel) ?_ | refine WC.draw 9 rfl (by decide +kernel) ?_ | refine WC.draw 10 rfl (by decide +kernel) ?_ | refine WC.draw 11 rfl (by decide +kernel) ?_ | refine WC.draw 12 rfl (by decide +kernel) ?_ | refine WC.draw 13 rfl (by decide +kernel) ?_ | refine WC.draw 14 rfl (by decide +kernel) ?_ | refine WC.draw 15 rfl (by decide +kernel) ?_ | refine WC.draw 16 rfl (by decide +kernel) ?_ | refine WC.draw 17 rfl (by decide +kernel) ?_ | refine WC.draw 18 rfl (by decide +kernel) ?_ | refine WC.draw 19 rfl (by decide +kernel) ?_ | refine WC.draw 20 rfl (by decide +kernel) ?_ | refine WC.draw 21 rfl (by decide +kernel) ?_ | refine WC.draw 22 rfl (by decide +kernel) ?_ | refine WC.draw 23 rfl (by decide +kernel) ?_ | refine WC.draw 24 rfl (by decide +kernel) ?_)); (repeat (refine WD.cons rfl (fun c h => by cases h) sq_R9_1 ?_)); refine WD.nil ?_)); (try (refine st ?_; (repeat intro zzc))))); (repeat ((first | (refine iF 67 rfl ?_; refine w_callG Try.func67 ?_ (hs := read_z _ (by (first | with_reducible exact natz _ | with_reducible exact natz0 | with_reducible exact natz1 | with_reducible exact natz2 | with_reducible exact natz3 | with_reducible exact natz4 | with_reducible exact natz8 | (apply natz_add; (· first | with_reducible exact natz _ | with_reducible exact natz0 | with_reducible exact natz1 | with_reducible exact natz2 | with_reducible exact natz3 | with_reducible exact natz4 | with_reducible exact natz8); (· first | with_reducible exact natz _ | with_reducible exact natz0 | with_reducible exact natz1 | with_reducible exact natz2 | with_reducible exact natz3 | with_reducible exact natz4 | with_reducible exact natz8)) | (apply natz_sub; (· first | with_reducible exact natz _ | with_reducible exact natz0 | with_reducible exact natz1 | with_reducible exact natz2 | with_reducible exact natz3 | with_reducible exact natz4 | with_reducible exact natz8); (· first | with_reducible exact natz _ | with_reducible exact natz0 | with_reducible exact natz1 | with_reducible exact natz2 | with_reducible exact natz3 | with_reducible exact natz4 | with_reducible exact natz8); (· omega)) | exact (Int.toNat_of_nonneg (by omega)).symm)) (by omega) (by omega) _ _ _)) | ((refine iDraw ?_; (first | refine WC.drawAll rfl (by decide +kernel) ?_ | refine WC.draw 1 rfl (by decide +kernel) ?_ | refine WC.draw 2 rfl (by decide +kernel) ?_ | refine WC.draw 3 rfl (by decide +kernel) ?_ | refine WC.draw 4 rfl (by decide +kernel) ?_ | refine WC.draw 5 rfl (by decide +kernel) ?_ | refine WC.draw 6 rfl (by decide +kernel) ?_ | refine WC.draw 7 rfl (by decide +kernel) ?_ | refine WC.draw 8 rfl (by decide +kernel) ?_ | refine WC.draw 9 rfl (by decide +kernel) ?_ | refine WC.draw 10 rfl (by decide +kernel) ?_ | refine WC.draw 11 rfl (by decide +kernel) ?_ | refine WC.draw 12 rfl (by decide +kernel) ?_ | refine WC.draw 13 rfl (by decide +kernel) ?_ | refine WC.draw 14 rfl (by decide +kernel) ?_ | refine WC.draw 15 rfl (by decide +kernel) ?_ | refine WC.draw 16 rfl (by decide +kernel) ?_ | refine WC.draw 17 rfl (by decide +kernel) ?_ | refine WC.draw 18 rfl (by decide +kernel) ?_ | refine WC.draw 19 rfl (by decide +kernel) ?_ | refine WC.draw 20 rfl (by decide +kernel) ?_ | refine WC.draw 21 rfl (by decide +kernel) ?_ | refine WC.draw 22 rfl (by decide +kernel) ?_ | refine WC.draw 23 rfl (by decide +kernel) ?_ | refine WC.draw 24 rfl (by decide +kernel) ?_)); (repeat (refine WD.cons rfl (fun c h => by cases h) sq_R9_1 ?_)); refine WD.nil ?_)); (try (refine st ?_; (repeat intro zzc))))); (repeat revert zzc); exact zzn.out) : G := h ⟨next⟩
theorem within_yes (l : List UInt8) (k i : Nat) (hl : l.length ≤ 9223372036854775804) (hk : k ≤ l.length) (h : Within l k i) (w0 : World) (m : Mem) (H : SHeap) :
    Does Try.prog 70 #[str l, .int .i64 (k : Int)] w0 m H (Gives (.tuple #[(readP l i).v, .bool true]) m H) := by
  refine Does.of_body (args := [str l, .int .i64 (k : Int)]) Try.func70 rfl Try.ntmps70 rfl ?_
  obtain ⟨hr, hi, hi3, hkl⟩ := within_reach hk h
  have hik := h.1
  (refine st_R9_1 ?_; intros; rename_i bk)
  refine WC.rename 6 (u := .int .i64 ((k - 3 : Nat) : Int)) rfl (vi (by omega)) ?_
  refine WC.loopW [(6, .int .i64 ((k - 3 : Nat) : Int)), (0, str l), (1, .int .i64 (k : Int)), (4, .pointer (some ⟨bk, 0, none⟩))] ?_ (fun j r ds m' H' => ∃ f : Nat, j = k - f ∧ f ≤ i ∧ r = [(6, .int .i64 (f : Int)), (0, str l), (1, .int .i64 (k : Int)), (4, .pointer (some ⟨bk, 0, none⟩))] ∧ ds = [] ∧ m' = m ∧ H' = .blk bk (.cells [.int .i64 0, .int .i64 0, .int .i32 0, .bool false].toArray 24 (0, 0)) :: H) (k - (k - 3))
    ⟨k - 3, rfl, by omega, rfl, rfl, rfl, rfl⟩ ?_
  · (repeat (first | exact Env.Sub.nil | refine Env.Sub.cons rfl ?_))
  rintro j r ds m' H' ⟨f, rfl, hf, rfl, rfl, rfl, rfl⟩
  have hw := readP_w (l := l) (k := f) (by omega)
  have hu : Within l k f → f = i := fun h' => within_unique hk h' h
  cases hb : (readP l f).b with
  | true =>
    have hne : f ≠ i := by rintro rfl; rw [h.2.2] at hb; cases hb
    have hbw := readP_b hb
    (repeat' (first | (refine st_R9_1 ?_; intros) | (first | refine c_ways (fun h1 => ?_) (fun h1 => ?_) | refine c_nways (fun h1 => ?_) (fun h1 => ?_) | refine w_gways (fun h1 => ?_) (fun h1 => ?_) | refine w_gnways (fun h1 => ?_) (fun h1 => ?_))))
    all_goals exact WQ.next (k - (f + 1)) ⟨f + 1, rfl, by omega, rfl, rfl, rfl, rfl⟩ (by omega) (by (repeat (first | exact Env.Sub.nil | refine Env.Sub.cons rfl ?_))) (fun w h => h.drop)
  | false =>
    by_cases hp : k < f + (readP l f).w
    · obtain rfl : f = i := hu ⟨by omega, hp, hb⟩
      have hb2 : (!(readP l f).b) = true := by rw [hb]; rfl
      (try (refine st_R9_1 ?_; intros))
      (refine q_fin0 ?_)
      exact Gives.mk rfl
    · have hne : f ≠ i := by rintro rfl; exact hp h.2.1
      (try (refine st_R9_1 ?_; intros))
      exact WQ.next (k - (f + 1)) ⟨f + 1, rfl, by omega, rfl, rfl, rfl, rfl⟩ (by omega) (by (repeat (first | exact Env.Sub.nil | refine Env.Sub.cons rfl ?_))) (fun w h => h.drop)
theorem within_no (l : List UInt8) (k : Nat) (hl : l.length ≤ 9223372036854775804) (hk : k ≤ l.length) (h : ¬ ∃ i, Within l k i) (w0 : World) (m : Mem) (H : SHeap) :
    Does Try.prog 70 #[str l, .int .i64 (k : Int)] w0 m H (Gives (.tuple #[zeroP, .bool false]) m H) := by
  refine Does.of_body (args := [str l, .int .i64 (k : Int)]) Try.func70 rfl Try.ntmps70 rfl ?_
  (refine st_R9_1 ?_; intros; rename_i bk)
  refine WC.rename 6 (u := .int .i64 ((k - 3 : Nat) : Int)) rfl (vi (by omega)) ?_
  refine WC.loopW [(6, .int .i64 ((k - 3 : Nat) : Int)), (0, str l), (1, .int .i64 (k : Int)), (4, .pointer (some ⟨bk, 0, none⟩))] ?_ (fun j r ds m' H' => ∃ f : Nat, j = k - f ∧ f ≤ k ∧ r = [(6, .int .i64 (f : Int)), (0, str l), (1, .int .i64 (k : Int)), (4, .pointer (some ⟨bk, 0, none⟩))] ∧ ds = [] ∧ m' = m ∧ H' = .blk bk (.cells [.int .i64 0, .int .i64 0, .int .i32 0, .bool false].toArray 24 (0, 0)) :: H) (k - (k - 3))
    ⟨k - 3, rfl, by omega, rfl, rfl, rfl, rfl⟩ ?_
  · (repeat (first | exact Env.Sub.nil | refine Env.Sub.cons rfl ?_))
  rintro j r ds m' H' ⟨f, rfl, hf, rfl, rfl, rfl, rfl⟩
  by_cases hfk : f < k
  · have hw := readP_w (l := l) (k := f) (by omega)
    cases hb : (readP l f).b with
    | true =>
      have hb2 : (!(readP l f).b) = false := by rw [hb]; rfl
      have hbw := readP_b hb
      (try (refine st_R9_1 ?_; intros))
      exact WQ.next (k - (f + 1)) ⟨f + 1, rfl, by omega, rfl, rfl, rfl, rfl⟩ (by omega) (by (repeat (first | exact Env.Sub.nil | refine Env.Sub.cons rfl ?_))) (fun w h => h.drop)
    | false =>
      have hp : ¬ k < f + (readP l f).w := fun hp => h ⟨f, hfk, hp, hb⟩
      (try (refine st_R9_1 ?_; intros))
      exact WQ.next (k - (f + 1)) ⟨f + 1, rfl, by omega, rfl, rfl, rfl, rfl⟩ (by omega) (by (repeat (first | exact Env.Sub.nil | refine Env.Sub.cons rfl ?_))) (fun w h => h.drop)
  · (try (refine st_R9_1 ?_; intros))
    (refine q_fin0 ?_)
    exact Gives.mk rfl
theorem within_yes_z (l : List UInt8) {z : Int} (k i : Nat) (hz : z = (k : Int)) (hl : l.length ≤ 9223372036854775804) (hk : k ≤ l.length) (h : Within l k i) (w0 : World) (m : Mem) (H : SHeap) :
    Does Try.prog 70 #[str l, .int .i64 z] w0 m H (Gives (.tuple #[(readP l i).v, .bool true]) m H) := by subst hz; exact within_yes l k i hl hk h w0 m H
theorem within_no_z (l : List UInt8) {z : Int} (k : Nat) (hz : z = (k : Int)) (hl : l.length ≤ 9223372036854775804) (hk : k ≤ l.length) (h : ¬ ∃ i, Within l k i) (w0 : World) (m : Mem) (H : SHeap) :
    Does Try.prog 70 #[str l, .int .i64 z] w0 m H (Gives (.tuple #[zeroP, .bool false]) m H) := by subst hz; exact within_no l k hl hk h w0 m H
theorem sq_R9_2 {G : Prop} (h : G := by (repeat (first | (refine sp ?_; (repeat intro zzc)) | (refine iF 67 rfl ?_; refine w_callG Try.func67 ?_ (hs := read_z _ (by (first | with_reducible exact natz _ | with_reducible exact natz0 | with_reducible exact natz1 | with_reducible exact natz2 | with_reducible exact natz3 | with_reducible exact natz4 | with_reducible exact natz8 | (apply natz_add; (· first | with_reducible exact natz _ | with_reducible exact natz0 | with_reducible exact natz1 | with_reducible exact natz2 | with_reducible exact natz3 | with_reducible exact natz4 | with_reducible exact natz8); (· first | with_reducible exact natz _ | with_reducible exact natz0 | with_reducible exact natz1 | with_reducible exact natz2 | with_reducible exact natz3 | with_reducible exact natz4 | with_reducible exact natz8)) | (apply natz_sub; (· first | with_reducible exact natz _ | with_reducible exact natz0 | with_reducible exact natz1 | with_reducible exact natz2 | with_reducible exact natz3 | with_reducible exact natz4 | with_reducible exact natz8); (· first | with_reducible exact natz _ | with_reducible exact natz0 | with_reducible exact natz1 | with_reducible exact natz2 | with_reducible exact natz3 | with_reducible exact natz4 | with_reducible exact natz8); (· omega)) | exact (Int.toNat_of_nonneg (by omega)).symm)) (by omega) (by omega) _ _ _)) | (refine iF 70 rfl ?_; refine w_callG Try.func70 ?_ (hs := within_yes_z _ _ _ (by (first | with_reducible exact natz _ | with_reducible exact natz0 | with_reducible exact natz1 | with_reducible exact natz2 | with_reducible exact natz3 | with_reducible exact natz4 | with_reducible exact natz8 | (apply natz_add; (· first | with_reducible exact natz _ | with_reducible exact natz0 | with_reducible exact natz1 | with_reducible exact natz2 | with_reducible exact natz3 | with_reducible exact natz4 | with_reducible exact natz8); (· first | with_reducible exact natz _ | with_reducible exact natz0 | with_reducible exact natz1 | with_reducible exact natz2 | with_reducible exact natz3 | with_reducible exact natz4 | with_reducible exact natz8)) | (apply natz_sub; (· first | with_reducible exact natz _ | with_reducible exact natz0 | with_reducible exact natz1 | with_reducible exact natz2 | with_reducible exact natz3 | with_reducible exact natz4 | with_reducible exact natz8); (· first | with_reducible exact natz _ | with_reducible exact natz0 | with_reducible exact natz1 | with_reducible exact natz2 | with_reducible exact natz3 | with_reducible exact natz4 | with_reducible exact natz8); (· omega)) | exact (Int.toNat_of_nonneg (by omega)).symm)) (by omega) (by omega) (by assumption) _ _ _)) | (refine iF 70 rfl ?_; refine w_callG Try.func70 ?_ (hs := within_no_z _ _ (by (first | with_reducible exact natz _ | with_reducible exact natz0 | with_reducible exact natz1 | with_reducible exact natz2 | with_reducible exact natz3 | with_reducible exact natz4 | with_reducible exact natz8 | (apply natz_add; (· first | with_reducible exact natz _ | with_reducible exact natz0 | with_reducible exact natz1 | with_reducible exact natz2 | with_reducible exact natz3 | with_reducible exact natz4 | with_reducible exact natz8); (· first | with_reducible exact natz _ | with_reducible exact natz0 | with_reducible exact natz1 | with_reducible exact natz2 | with_reducible exact natz3 | with_reducible exact natz4 | with_reducible exact natz8)) | (apply natz_sub; (· first | with_reducible exact natz _ | with_reducible exact natz0 | with_reducible exact natz1 | with_reducible exact natz2 | with_reducible exact natz3 | with_reducible exact natz4 | with_reducible exact natz8); (· first | with_reducible exact natz _ | with_reducible exact natz0 | with_reducible exact natz1 | with_reducible exact natz2 | with_reducible exact natz3 | with_reducible exact natz4 | with_reducible exact natz8); (· omega)) | exact (Int.toNat_of_nonneg (by omega)).symm)) (by omega) (by omega) (by assumption) _ _ _)))); exact WQ.q1 rfl) : G := h
theorem st_R9_2 {G G' : Prop} (next : G') (h : Bx G' → G := by intro zzn; (first | ((refine st ?_; (repeat intro zzc)); (try ((first | (refine iF 67 rfl ?_; refine w_callG Try.func67 ?_ (hs := read_z _ (by (first | with_reducible exact natz _ | with_reducible exact natz0 | with_reducible exact natz1 | with_reducible exact natz2 | with_reducible exact natz3 | with_reducible exact natz4 | with_reducible exact natz8 | (apply natz_add; (· first | with_reducible exact natz _ | with_reducible exact natz0 | with_reducible exact natz1 | with_reducible exact natz2 | with_reducible exact natz3 | with_reducible exact natz4 | with_reducible exact natz8); (· first | with_reducible exact natz _ | with_reducible exact natz0 | with_reducible exact natz1 | with_reducible exact natz2 | with_reducible exact natz3 | with_reducible exact natz4 | with_reducible exact natz8)) | (apply natz_sub; (· first | with_reducible exact natz _ | with_reducible exact natz0 | with_reducible exact natz1 | with_reducible exact natz2 | with_reducible exact natz3 | with_reducible exact natz4 | with_reducible exact natz8); (· first | with_reducible exact natz _ | with_reducible exact natz0 | with_reducible exact natz1 | with_reducible exact natz2 | with_reducible exact natz3 | with_reducible exact natz4 | with_reducible exact natz8); (· omega)) | exact (Int.toNat_of_nonneg (by omega)).symm)) (by omega) (by omega) _ _ _)) | (refine iF 70 rfl ?_; refine w_callG Try.func70 ?_ (hs := within_yes_z _ _ _ (by (first | with_reducible exact natz _ | with_reducible exact natz0 | with_reducible exact natz1 | with_reducible exact natz2 | with_reducible exact natz3 | with_reducible exact natz4 | with_reducible exact natz8 | (apply natz_add; (· first | with_reducible exact natz _ | with_reducible exact natz0 | with_reducible exact natz1 | with_reducible exact natz2 | with_reducible exact natz3 | with_reducible exact natz4 | with_reducible exact natz8); (· first | with_reducible exact natz _ | with_reducible exact natz0 | with_reducible exact natz1 | with_reducible exact natz2 | with_reducible exact natz3 | with_reducible exact natz4 | with_reducible exact natz8)) | (apply natz_sub; (· first | with_reducible exact natz _ | with_reducible exact natz0 | with_reducible exact natz1 | with_reducible exact natz2 | with_reducible exact natz3 | with_reducible exact natz4 | with_reducible exact natz8); (· first | with_reducible exact natz _ | with_reducible exact natz0 | with_reducible exact natz1 | with_reducible exact natz2 | with_reducible exact natz3 | with_reducible exact natz4 | with_reducible exact natz8); (· omega)) | exact (Int.toNat_of_nonneg (by omega)).symm)) (by omega) (by omega) (by assumption) _ _ _)) | (refine iF 70 rfl ?_; refine w_callG Try.func70 ?_ (hs := within_no_z _ _ (by (first | with_reducible exact natz _ | with_reducible exact natz0 | with_reducible exact natz1 | with_reducible exact natz2 | with_reducible exact natz3 | with_reducible exact natz4 | with_reducible exact natz8 | (apply natz_add; (· first | with_reducible exact natz _ | with_reducible exact natz0 | with_reducible exact natz1 | with_reducible exact natz2 | with_reducible exact natz3 | with_reducible exact natz4 | with_reducible exact natz8); (· first | with_reducible exact natz _ | with_reducible exact natz0 | with_reducible exact natz1 | with_reducible exact natz2 | with_reducible exact natz3 | with_reducible exact natz4 | with_reducible exact natz8)) | (apply natz_sub; (· first | with_reducible exact natz _ | with_reducible exact natz0 | with_reducible exact natz1 | with_reducible exact natz2 | with_reducible exact natz3 | with_reducible exact natz4 | with_reducible exact natz8); (· first | with_reducible exact natz _ | with_reducible exact natz0 | with_reducible exact natz1 | with_reducible exact natz2 | with_reducible exact natz3 | with_reducible exact natz4 | with_reducible exact natz8); (· omega)) | exact (Int.toNat_of_nonneg (by omega)).symm)) (by omega) (by omega) (by assumption) _ _ _)) | ((refine iDraw ?_; (first | refine WC.drawAll rfl (by decide +kernel) ?_ | refine WC.draw 1 rfl (by decide +kernel) ?_ | refine WC.draw 2 rfl (by decide +kernel) ?_ | refine WC.draw 3 rfl (by decide +kernel) ?_ | refine WC.draw 4 rfl (by decide +kernel) ?_ | refine WC.draw 5 rfl (by decide +kernel) ?_ | refine WC.draw 6 rfl (by decide +kernel) ?_ | refine WC.draw 7 rfl (by decide +kernel) ?_ | refine WC.draw 8 rfl (by decide +kernel) ?_ | refine WC.draw 9 rfl (by decide +kernel) ?_ | refine WC.draw 10 rfl (by decide +kernel) ?_ | refine WC.draw 11 rfl (by decide +kernel) ?_ | refine WC.draw 12 rfl (by decide +kernel) ?_ | refine WC.draw 13 rfl (by decide +kernel) ?_ | refine WC.draw 14 rfl (by decide +kernel) ?_ | refine WC.draw 15 rfl (by decide +kernel) ?_ | refine WC.draw 16 rfl (by decide +kernel) ?_ | refine WC.draw 17 rfl (by decide +kernel) ?_ | refine WC.draw 18 rfl (by decide +kernel) ?_ | refine WC.draw 19 rfl (by decide +kernel) ?_ | refine WC.draw 20 rfl (by decide +kernel) ?_ | refine WC.draw 21 rfl (by decide +kernel) ?_ | refine WC.draw 22 rfl (by decide +kernel) ?_ | refine WC.draw 23 rfl (by decide +kernel) ?_ | refine WC.draw 24 rfl (by decide +kernel) ?_)); (repeat (refine WD.cons rfl (fun c h => by cases h) sq_R9_2 ?_)); refine WD.nil ?_)); (try (refine st ?_; (repeat intro zzc)))))) | ((first | (refine iF 67 rfl ?_; refine w_callG Try.func67 ?_ (hs := read_z _ (by (first | with_reducible exact natz _ | with_reducible exact natz0 | with_reducible exact natz1 | with_reducible exact natz2 | with_reducible exact natz3 | with_reducible exact natz4 | with_reducible exact natz8 | (apply natz_add; (· first | with_reducible exact natz _ | with_reducible exact natz0 | with_reducible exact natz1 | with_reducible exact natz2 | with_reducible exact natz3 | with_reducible exact natz4 | with_reducible exact natz8); (· first | with_reducible exact natz _ | with_reducible exact natz0 | with_reducible exact natz1 | with_reducible exact natz2 | with_reducible exact natz3 | with_reducible exact natz4 | with_reducible exact natz8)) | (apply natz_sub; (· first | with_reducible exact natz _ | with_reducible exact natz0 | with_reducible exact natz1 | with_reducible exact natz2 | with_reducible exact natz3 | with_reducible exact natz4 | with_reducible exact natz8); (· first | with_reducible exact natz _ | with_reducible exact natz0 | with_reducible exact natz1 | with_reducible exact natz2 | with_reducible exact natz3 | with_reducible exact natz4 | with_reducible exact natz8); (· omega)) | exact (Int.toNat_of_nonneg (by omega)).symm)) (by omega) (by omega) _ _ _)) | (refine iF 70 rfl ?_; refine w_callG Try.func70 ?_ (hs := within_yes_z _ _ _ (by (first | with_reducible exact natz _ | with_reducible exact natz0 | with_reducible exact natz1 | with_reducible exact natz2 | with_reducible exact natz3 | with_reducible exact natz4 | with_reducible exact natz8 | (apply natz_add; (· first | with_reducible exact natz _ | with_reducible exact natz0 | with_reducible exact natz1 | with_reducible exact natz2 | with_reducible exact natz3 | with_reducible exact natz4 | with_reducible exact natz8); (· first | with_reducible exact natz _ | with_reducible exact natz0 | with_reducible exact natz1 | with_reducible exact natz2 | with_reducible exact natz3 | with_reducible exact natz4 | with_reducible exact natz8)) | (apply natz_sub; (· first | with_reducible exact natz _ | with_reducible exact natz0 | with_reducible exact natz1 | with_reducible exact natz2 | with_reducible exact natz3 | with_reducible exact natz4 | with_reducible exact natz8); (· first | with_reducible exact natz _ | with_reducible exact natz0 | with_reducible exact natz1 | with_reducible exact natz2 | with_reducible exact natz3 | with_reducible exact natz4 | with_reducible exact natz8); (· omega)) | exact (Int.toNat_of_nonneg (by omega)).symm)) (by omega) (by omega) (by assumption) _ _ _)) | (refine iF 70 rfl ?_; refine w_callG Try.func70 ?_ (hs := within_no_z _ _ (by (first | with_reducible exact natz _ | with_reducible exact natz0 | with_reducible exact natz1 | with_reducible exact natz2 | with_reducible exact natz3 | with_reducible exact natz4 | with_reducible exact natz8 | (apply natz_add; (· first | with_reducible exact natz _ | with_reducible exact natz0 | with_reducible exact natz1 | with_reducible exact natz2 | with_reducible exact natz3 | with_reducible exact natz4 | with_reducible exact natz8); (· first | with_reducible exact natz _ | with_reducible exact natz0 | with_reducible exact natz1 | with_reducible exact natz2 | with_reducible exact natz3 | with_reducible exact natz4 | with_reducible exact natz8)) | (apply natz_sub; (· first | with_reducible exact natz _ | with_reducible exact natz0 | with_reducible exact natz1 | with_reducible exact natz2 | with_reducible exact natz3 | with_reducible exact natz4 | with_reducible exact natz8); (· first | with_reducible exact natz _ | with_reducible exact natz0 | with_reducible exact natz1 | with_reducible exact natz2 | with_reducible exact natz3 | with_reducible exact natz4 | with_reducible exact natz8); (· omega)) | exact (Int.toNat_of_nonneg (by omega)).symm)) (by omega) (by omega) (by assumption) _ _ _)) | ((refine iDraw ?_; (first | refine WC.drawAll rfl (by decide +kernel) ?_ | refine WC.draw 1 rfl (by decide +kernel) ?_ | refine WC.draw 2 rfl (by decide +kernel) ?_ | refine WC.draw 3 rfl (by decide +kernel) ?_ | refine WC.draw 4 rfl (by decide +kernel) ?_ | refine WC.draw 5 rfl (by decide +kernel) ?_ | refine WC.draw 6 rfl (by decide +kernel) ?_ | refine WC.draw 7 rfl (by decide +kernel) ?_ | refine WC.draw 8 rfl (by decide +kernel) ?_ | refine WC.draw 9 rfl (by decide +kernel) ?_ | refine WC.draw 10 rfl (by decide +kernel) ?_ | refine WC.draw 11 rfl (by decide +kernel) ?_ | refine WC.draw 12 rfl (by decide +kernel) ?_ | refine WC.draw 13 rfl (by decide +kernel) ?_ | refine WC.draw 14 rfl (by decide +kernel) ?_ | refine WC.draw 15 rfl (by decide +kernel) ?_ | refine WC.draw 16 rfl (by decide +kernel) ?_ | refine WC.draw 17 rfl (by decide +kernel) ?_ | refine WC.draw 18 rfl (by decide +kernel) ?_ | refine WC.draw 19 rfl (by decide +kernel) ?_ | refine WC.draw 20 rfl (by decide +kernel) ?_ | refine WC.draw 21 rfl (by decide +kernel) ?_ | refine WC.draw 22 rfl (by decide +kernel) ?_ | refine WC.draw 23 rfl (by decide +kernel) ?_ | refine WC.draw 24 rfl (by decide +kernel) ?_)); (repeat (refine WD.cons rfl (fun c h => by cases h) sq_R9_2 ?_)); refine WD.nil ?_)); (try (refine st ?_; (repeat intro zzc))))); (repeat ((first | (refine iF 67 rfl ?_; refine w_callG Try.func67 ?_ (hs := read_z _ (by (first | with_reducible exact natz _ | with_reducible exact natz0 | with_reducible exact natz1 | with_reducible exact natz2 | with_reducible exact natz3 | with_reducible exact natz4 | with_reducible exact natz8 | (apply natz_add; (· first | with_reducible exact natz _ | with_reducible exact natz0 | with_reducible exact natz1 | with_reducible exact natz2 | with_reducible exact natz3 | with_reducible exact natz4 | with_reducible exact natz8); (· first | with_reducible exact natz _ | with_reducible exact natz0 | with_reducible exact natz1 | with_reducible exact natz2 | with_reducible exact natz3 | with_reducible exact natz4 | with_reducible exact natz8)) | (apply natz_sub; (· first | with_reducible exact natz _ | with_reducible exact natz0 | with_reducible exact natz1 | with_reducible exact natz2 | with_reducible exact natz3 | with_reducible exact natz4 | with_reducible exact natz8); (· first | with_reducible exact natz _ | with_reducible exact natz0 | with_reducible exact natz1 | with_reducible exact natz2 | with_reducible exact natz3 | with_reducible exact natz4 | with_reducible exact natz8); (· omega)) | exact (Int.toNat_of_nonneg (by omega)).symm)) (by omega) (by omega) _ _ _)) | (refine iF 70 rfl ?_; refine w_callG Try.func70 ?_ (hs := within_yes_z _ _ _ (by (first | with_reducible exact natz _ | with_reducible exact natz0 | with_reducible exact natz1 | with_reducible exact natz2 | with_reducible exact natz3 | with_reducible exact natz4 | with_reducible exact natz8 | (apply natz_add; (· first | with_reducible exact natz _ | with_reducible exact natz0 | with_reducible exact natz1 | with_reducible exact natz2 | with_reducible exact natz3 | with_reducible exact natz4 | with_reducible exact natz8); (· first | with_reducible exact natz _ | with_reducible exact natz0 | with_reducible exact natz1 | with_reducible exact natz2 | with_reducible exact natz3 | with_reducible exact natz4 | with_reducible exact natz8)) | (apply natz_sub; (· first | with_reducible exact natz _ | with_reducible exact natz0 | with_reducible exact natz1 | with_reducible exact natz2 | with_reducible exact natz3 | with_reducible exact natz4 | with_reducible exact natz8); (· first | with_reducible exact natz _ | with_reducible exact natz0 | with_reducible exact natz1 | with_reducible exact natz2 | with_reducible exact natz3 | with_reducible exact natz4 | with_reducible exact natz8); (· omega)) | exact (Int.toNat_of_nonneg (by omega)).symm)) (by omega) (by omega) (by assumption) _ _ _)) | (refine iF 70 rfl ?_; refine w_callG Try.func70 ?_ (hs := within_no_z _ _ (by (first | with_reducible exact natz _ | with_reducible exact natz0 | with_reducible exact natz1 | with_reducible exact natz2 | with_reducible exact natz3 | with_reducible exact natz4 | with_reducible exact natz8 | (apply natz_add; (· first | with_reducible exact natz _ | with_reducible exact natz0 | with_reducible exact natz1 | with_reducible exact natz2 | with_reducible exact natz3 | with_reducible exact natz4 | with_reducible exact natz8); (· first | with_reducible exact natz _ | with_reducible exact natz0 | with_reducible exact natz1 | with_reducible exact natz2 | with_reducible exact natz3 | with_reducible exact natz4 | with_reducible exact natz8)) | (apply natz_sub; (· first | with_reducible exact natz _ | with_reducible exact natz0 | with_reducible exact natz1 | with_reducible exact natz2 | with_reducible exact natz3 | with_reducible exact natz4 | with_reducible exact natz8); (· first | with_reducible exact natz _ | with_reducible exact natz0 | with_reducible exact natz1 | with_reducible exact natz2 | with_reducible exact natz3 | with_reducible exact natz4 | with_reducible exact natz8); (· omega)) | exact (Int.toNat_of_nonneg (by omega)).symm)) (by omega) (by omega) (by assumption) _ _ _)) | ((refine iDraw ?_; (first | refine WC.drawAll rfl (by decide +kernel) ?_ | refine WC.draw 1 rfl (by decide +kernel) ?_ | refine WC.draw 2 rfl (by decide +kernel) ?_ | refine WC.draw 3 rfl (by decide +kernel) ?_ | refine WC.draw 4 rfl (by decide +kernel) ?_ | refine WC.draw 5 rfl (by decide +kernel) ?_ | refine WC.draw 6 rfl (by decide +kernel) ?_ | refine WC.draw 7 rfl (by decide +kernel) ?_ | refine WC.draw 8 rfl (by decide +kernel) ?_ | refine WC.draw 9 rfl (by decide +kernel) ?_ | refine WC.draw 10 rfl (by decide +kernel) ?_ | refine WC.draw 11 rfl (by decide +kernel) ?_ | refine WC.draw 12 rfl (by decide +kernel) ?_ | refine WC.draw 13 rfl (by decide +kernel) ?_ | refine WC.draw 14 rfl (by decide +kernel) ?_ | refine WC.draw 15 rfl (by decide +kernel) ?_ | refine WC.draw 16 rfl (by decide +kernel) ?_ | refine WC.draw 17 rfl (by decide +kernel) ?_ | refine WC.draw 18 rfl (by decide +kernel) ?_ | refine WC.draw 19 rfl (by decide +kernel) ?_ | refine WC.draw 20 rfl (by decide +kernel) ?_ | refine WC.draw 21 rfl (by decide +kernel) ?_ | refine WC.draw 22 rfl (by decide +kernel) ?_ | refine WC.draw 23 rfl (by decide +kernel) ?_ | refine WC.draw 24 rfl (by decide +kernel) ?_)); (repeat (refine WD.cons rfl (fun c h => by cases h) sq_R9_2 ?_)); refine WD.nil ?_)); (try (refine st ?_; (repeat intro zzc))))); (repeat revert zzc); exact zzn.out) : G := h ⟨next⟩
theorem bound_yes (l : List UInt8) (k : Nat) (hl : l.length ≤ 9223372036854775804) (hk : k ≤ l.length) (h : ¬ ∃ i, Within l k i) (w0 : World) (m : Mem) (H : SHeap) :
    Does Try.prog 29 #[str l, .int .i64 (k : Int)] w0 m H (Gives (.bool true) m H) := by
  refine Does.of_body (args := [str l, .int .i64 (k : Int)]) Try.func29 rfl Try.ntmps29 rfl ?_
  (try (refine st_R9_2 ?_; intros))
  (refine q_fin0 ?_)
  exact Gives.mk rfl
theorem bound_no (l : List UInt8) (k i : Nat) (hl : l.length ≤ 9223372036854775804) (hk : k ≤ l.length) (h : Within l k i) (w0 : World) (m : Mem) (H : SHeap) :
    Does Try.prog 29 #[str l, .int .i64 (k : Int)] w0 m H (Gives (.bool false) m H) := by
  refine Does.of_body (args := [str l, .int .i64 (k : Int)]) Try.func29 rfl Try.ntmps29 rfl ?_
  (try (refine st_R9_2 ?_; intros))
  (refine q_fin0 ?_)
  exact Gives.mk rfl
theorem bound_out (l : List UInt8) (k : Int) (h : k < 0 ∨ (l.length : Int) < k) (w0 : World) (m : Mem) (H : SHeap) :
    Does Try.prog 29 #[str l, .int .i64 k] w0 m H (Gives (.bool false) m H) := by
  refine Does.of_body (args := [str l, .int .i64 k]) Try.func29 rfl Try.ntmps29 rfl ?_
  (repeat' (first | (refine st_R9_2 ?_; intros) | (first | refine c_ways (fun h1 => ?_) (fun h1 => ?_) | refine c_nways (fun h1 => ?_) (fun h1 => ?_) | refine w_gways (fun h1 => ?_) (fun h1 => ?_) | refine w_gnways (fun h1 => ?_) (fun h1 => ?_))))
  all_goals ((refine q_fin0 ?_); exact Gives.mk rfl)
def spanV (a b : Int) : Value := .agg #[.int .i64 a, .int .i64 b]
theorem around_no (l : List UInt8) (k : Nat) (hl : l.length ≤ 9223372036854775804) (hk : k ≤ l.length) (h : ¬ ∃ i, Within l k i) (w0 : World) (m : Mem) (H : SHeap) :
    Does Try.prog 28 #[str l, .int .i64 (k : Int)] w0 m H (Gives (.tuple #[spanV k k, .int .i64 0]) m H) := by
  refine Does.of_body (args := [str l, .int .i64 (k : Int)]) Try.func28 rfl Try.ntmps28 rfl ?_
  (try (refine st_R9_2 ?_; intros))
  (refine q_fin0 ?_)
  exact Gives.mk rfl
theorem around_yes (l : List UInt8) (k i : Nat) (hl : l.length ≤ 9223372036854775804) (hk : k ≤ l.length) (h : Within l k i) (w0 : World) (m : Mem) (H : SHeap) :
    Does Try.prog 28 #[str l, .int .i64 (k : Int)] w0 m H (Gives (.tuple #[spanV i (i + (readP l i).w), .int .i64 0]) m H) := by
  refine Does.of_body (args := [str l, .int .i64 (k : Int)]) Try.func28 rfl Try.ntmps28 rfl ?_
  obtain ⟨hr, hi, hi3, hkl⟩ := within_reach hk h
  have hw := readP_w hi
  have ha := readP_at l i
  (try (refine st_R9_2 ?_; intros))
  (refine q_fin0 ?_)
  refine Gives.mk ?_
  rw [ha]; rfl
theorem around_out (l : List UInt8) (k : Int) (h : k < 0 ∨ (l.length : Int) < k) (w0 : World) (m : Mem) (H : SHeap) :
    Does Try.prog 28 #[str l, .int .i64 k] w0 m H (Gives (.tuple #[spanV 0 0, .int .i64 5]) m H) := by
  refine Does.of_body (args := [str l, .int .i64 k]) Try.func28 rfl Try.ntmps28 rfl ?_
  (repeat' (first | (refine st_R9_2 ?_; intros) | (first | refine c_ways (fun h1 => ?_) (fun h1 => ?_) | refine c_nways (fun h1 => ?_) (fun h1 => ?_) | refine w_gways (fun h1 => ?_) (fun h1 => ?_) | refine w_gnways (fun h1 => ?_) (fun h1 => ?_))))
  all_goals ((refine q_fin0 ?_); exact Gives.mk rfl)
end Go.Proofs.Ytdmdabjaboigcaa

