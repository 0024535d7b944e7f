/- Some path is always active: the plain law. No program in sight. -/
import Derived.Test.YtkkcdijnhegneaaB12
import Derived.Test.YtkkcdijnhegneaaB11
namespace Go.Proofs.Ytkkcdijnhegneaa
theorem act_mem {s : Sc} {k : Nat} : k ∈ s.act ↔ ∃ p : Pa, s.ps[k]? = some p ∧ p.r = 0 := by
  show k ∈ s.actP s.ps.length ↔ _
  unfold Sc.actP
  rw [List.mem_filter, List.mem_range, decide_eq_true_eq]
  constructor
  · rintro ⟨h1, h2⟩
    obtain ⟨p, hp, hr⟩ := Option.map_eq_some_iff.1 h2
    exact ⟨p, hp, hr⟩
  · rintro ⟨p, hp, hr⟩
    exact ⟨(List.getElem?_eq_some_iff.1 hp).1, by rw [hp, Option.map_some, hr]⟩
theorem act_pos {s : Sc} : 1 ≤ s.act.length ↔ ∃ (k : Nat) (p : Pa), s.ps[k]? = some p ∧ p.r = 0 := by
  constructor
  · intro h
    obtain ⟨k, hk⟩ := List.exists_mem_of_length_pos (l := s.act) (by omega)
    exact ⟨k, act_mem.1 hk⟩
  · rintro ⟨k, h⟩
    exact List.length_pos_of_mem (act_mem.2 h)
theorem act_two {s : Sc} (k : Nat) (h : 1 < s.act.length) : ∃ (j : Nat) (p : Pa), j ≠ k ∧ s.ps[j]? = some p ∧ p.r = 0 := by
  have hpw : s.act.Pairwise (· < ·) := List.Pairwise.filter _ List.pairwise_lt_range
  have hm := fun j => act_mem (s := s) (k := j)
  generalize s.act = l at *
  match l, h with
  | a :: b :: l, _ =>
    rw [List.pairwise_cons] at hpw
    have hab := hpw.1 b (by simp)
    by_cases e : a = k
    · obtain ⟨p, hp⟩ := (hm b).1 (by simp)
      exact ⟨b, p, by omega, hp⟩
    · obtain ⟨p, hp⟩ := (hm a).1 (by simp)
      exact ⟨a, p, e, hp⟩
theorem count_pos {s : Sc} {k : Nat} (what : Nat) {p : Pa} (hp : s.ps[k]? = some p) (h : 1 ≤ s.act.length) : 1 ≤ (s.count k what p).act.length := by
  have hk := (List.getElem?_eq_some_iff.1 hp).1
  rw [act_pos]
  unfold Sc.count
  split
  · rename_i hc
    obtain ⟨j, q, hj, hq, hr⟩ := act_two k hc.2.2.2.2
    refine ⟨j, q, ?_, hr⟩
    simp only [Sc.setP] at hq ⊢
    rw [List.getElem?_set_ne (Ne.symm hj)] at hq ⊢
    exact hq
  · obtain ⟨j, q, hq, hr⟩ := act_pos.1 h
    by_cases e : j = k
    · subst e
      rw [hp] at hq
      injection hq with hq
      subst hq
      refine ⟨j, p.inc what, by simp [Sc.setP, hk], ?_⟩
      rw [← hr]
      unfold Pa.inc
      split
      · rfl
      · split <;> rfl
    · refine ⟨j, q, ?_, hr⟩
      simp only [Sc.setP]
      rw [List.getElem?_set_ne (Ne.symm e)]
      exact hq
theorem tick_pos {s : Sc} (h : 1 ≤ s.act.length) : 1 ≤ s.tick.act.length := by
  rw [act_pos] at h ⊢
  obtain ⟨j, q, hq, hr⟩ := h
  exact ⟨j, q, by simp [Sc.tick, hq, Pa.tick, hr], hr⟩
theorem clear_pos {s : Sc} (h : 1 ≤ s.act.length) : 1 ≤ s.clear.act.length := by
  rw [act_pos] at h ⊢
  obtain ⟨j, q, hq, hr⟩ := h
  exact ⟨j, q.clear, by simp [Sc.clear, hq], hr⟩
theorem new_pos (n : Nat) (rest : Int) (hn : 1 ≤ n) : 1 ≤ (new0 n rest).act.length := by
  rw [act_pos]
  exact ⟨0, zeroP, by show (List.replicate n zeroP)[0]? = some zeroP; rw [List.getElem?_replicate, if_pos (by omega)], rfl⟩
theorem boxTp {base g : Nat} {w : World} {cs : Array Value} {fr : Nat × Nat} (h : w.heap[g]? = some (.cells cs 37 fr)) : ¬ Tp base w g := by
  rintro ⟨_, cs', fr', h'⟩
  rw [h] at h'
  injection h' with h'
  injection h' with _ ht
  exact absurd ht (by decide)
theorem IsSc.le {b b' g : Nat} {w : World} {s : Sc} (h : IsSc b w g s) (hb : b' ≤ b) : IsSc b' w g s := by
  obtain ⟨gp, c, h⟩ := h
  exact ⟨gp, c, Nat.le_trans hb h.hg, Nat.le_trans hb h.hp, h.blk, ownLe h.own hb⟩
theorem RR.le {b b' gr c : Nat} {w : World} {s : Sc} (h : RR b w gr c s) (hb : b' ≤ b) : RR b' w gr c s := ownLe h hb
end Go.Proofs.Ytkkcdijnhegneaa
