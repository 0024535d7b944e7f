/- What the document's rows are of a meter: plain law. No program in sight. -/
import Derived.Test.YthjeaalnlagpbaaR1
namespace Go.Proofs.Ythjeaalnlagpbaa
open Classical
noncomputable def Mt.rows (m : Mt ByteArray) : Kr := m.ks.map fun k => (k, m.tok k)
theorem rows_len (m : Mt ByteArray) : m.rows.length = m.ks.length := by simp [Mt.rows]
theorem rows_get {m : Mt ByteArray} {i : Nat} {k : ByteArray} (h : m.ks[i]? = some k) : m.rows[i]? = some (k, m.tok k) := by simp [Mt.rows, h]
theorem find_in (f : ByteArray → Int) (k : ByteArray) : ∀ (l : List ByteArray), k ∈ l → l[findK (l.map fun k => (k, f k)) k]? = some k := by
  intro l
  induction l with
  | nil => intro h; simp at h
  | cons a l ih =>
    intro h
    simp only [List.map_cons]
    unfold findK
    by_cases e : a = k
    · rw [if_pos e, e]
      rfl
    · rw [if_neg e]
      have hm : k ∈ l := by
        rcases List.mem_cons.1 h with h | h
        · exact (e h.symm).elim
        · exact h
      simpa using ih hm
theorem find_out (f : ByteArray → Int) (k : ByteArray) : ∀ (l : List ByteArray), k ∉ l → findK (l.map fun k => (k, f k)) k = l.length := by
  intro l
  induction l with
  | nil => intro h; rfl
  | cons a l ih =>
    intro h
    simp only [List.map_cons]
    unfold findK
    rw [if_neg (fun e : a = k => h (by rw [e]; exact List.mem_cons_self)), ih (fun hm => h (List.mem_cons_of_mem _ hm))]
    rfl
theorem rows_in {m : Mt ByteArray} {k : ByteArray} (h : k ∈ m.ks) : m.ks[findK m.rows k]? = some k := find_in m.tok k m.ks h
theorem rows_out {m : Mt ByteArray} {k : ByteArray} (h : k ∉ m.ks) : findK m.rows k = m.ks.length := find_out m.tok k m.ks h
theorem rows_set {m : Mt ByteArray} (hok : m.Ok) {k : ByteArray} (h : k ∈ m.ks) {x : Int} (hx : x ≤ m.b) : (m.set k x).rows = m.rows.set (findK m.rows k) (k, x) := by
  have hp := rows_in h
  have hpl := (List.getElem?_eq_some_iff.1 hp).1
  have hts : (m.set k x).tok k = x := by
    unfold Mt.tok
    rw [if_pos (show k ∈ (m.set k x).ks from h), show (m.set k x).f k = (x, m.now) from if_pos rfl]
    show min m.b (x + m.r * (m.now - m.now)) = x
    rw [Int.sub_self, Int.mul_zero]
    omega
  have hto : ∀ k', k' ≠ k → (m.set k x).tok k' = m.tok k' := fun k' hk => by
    unfold Mt.tok
    simp only [Mt.set, if_neg hk]
    by_cases hm : k' ∈ m.ks
    · rw [if_pos hm, if_pos hm]
    · rw [if_neg hm, if_neg hm]
  apply List.ext_getElem?
  intro i
  by_cases hi : i = findK m.rows k
  · subst hi
    rw [rows_get (m := m.set k x) (by exact hp), List.getElem?_set_self (by rw [rows_len]; exact hpl), hts]
  · rw [List.getElem?_set_ne (Ne.symm hi)]
    cases hk : m.ks[i]? with
    | none =>
      have := List.getElem?_eq_none_iff.1 hk
      rw [List.getElem?_eq_none (by rw [rows_len]; exact this), List.getElem?_eq_none (by rw [rows_len]; exact this)]
    | some k' =>
      rw [rows_get (m := m.set k x) (by exact hk), rows_get hk, hto]
      rintro rfl
      obtain ⟨h1, h2⟩ := List.getElem?_eq_some_iff.1 hk
      obtain ⟨h3, h4⟩ := List.getElem?_eq_some_iff.1 hp
      exact hi ((List.getElem_inj hok.nd).1 (h2.trans h4.symm))
theorem rows_push {m : Mt ByteArray} {k : ByteArray} (h : k ∉ m.ks) : ((m.push k).set k m.b).rows = m.rows ++ [(k, m.b)] := by
  have hts : ((m.push k).set k m.b).tok k = m.b := by
    unfold Mt.tok
    rw [if_pos (show k ∈ ((m.push k).set k m.b).ks from Mt.push_mem m k), show ((m.push k).set k m.b).f k = (m.b, m.now) from if_pos rfl]
    show min m.b (m.b + m.r * (m.now - m.now)) = m.b
    rw [Int.sub_self, Int.mul_zero]
    omega
  have hto : ∀ k', k' ∈ m.ks → ((m.push k).set k m.b).tok k' = m.tok k' := fun k' hk => by
    have hne : k' ≠ k := fun e => h (e ▸ hk)
    unfold Mt.tok
    rw [if_pos (show k' ∈ ((m.push k).set k m.b).ks from List.mem_append_left _ hk), if_pos hk]
    simp only [Mt.set, Mt.push, if_neg hne]
  have e : ((m.push k).set k m.b).rows = (m.ks ++ [k]).map fun k' => (k', ((m.push k).set k m.b).tok k') := rfl
  rw [e, List.map_append]
  simp only [List.map_cons, List.map_nil, hts]
  congr 1
  exact List.map_congr_left (fun k' hk => by rw [hto k' hk])
theorem rows_ask_in {m : Mt ByteArray} {k : ByteArray} (n : Int) (h : k ∈ m.ks) : m.ask k n = m := by unfold Mt.ask; rw [if_neg (fun x => x.2 h)]
theorem rows_ask_out {m : Mt ByteArray} {k : ByteArray} {n : Int} (he : m.err k n = 0) (h : k ∉ m.ks) : m.ask k n = (m.push k).set k m.b := by unfold Mt.ask; rw [if_pos ⟨he, h⟩]
theorem tok_out {m : Mt ByteArray} {k : ByteArray} (h : k ∉ m.ks) : m.tok k = m.b := by unfold Mt.tok; rw [if_neg h]
theorem tick_no {m : Mt ByteArray} (hok : m.Ok) {n : Int} (h : n < 1) : m.tick n = m := by
  have hn := hok.now
  unfold Mt.tick
  rw [show m.now + min (max 0 (min n 1073741824)) (4611686018427387904 - m.now) = m.now by omega]
theorem tick_now {m : Mt ByteArray} {n : Int} (h : 1 ≤ n) (hn : m.now + min n 1073741824 ≤ 4611686018427387904) : (m.tick n).now = m.now + min n 1073741824 := by
  unfold Mt.tick
  show m.now + min (max 0 (min n 1073741824)) (4611686018427387904 - m.now) = _
  omega
theorem rows_tick {m : Mt ByteArray} (hok : m.Ok) {n : Int} (h : 1 ≤ n) (hn : m.now + min n 1073741824 ≤ 4611686018427387904) :
    (m.tick n).rows = m.rows.map fun p => (p.1, min m.b (p.2 + m.r * min n 1073741824)) := by
  have e : (m.tick n).rows = m.ks.map fun k => (k, (m.tick n).tok k) := rfl
  rw [e]
  unfold Mt.rows
  rw [List.map_map]
  refine List.map_congr_left fun k hk => ?_
  show (k, (m.tick n).tok k) = (k, min m.b (m.tok k + m.r * min n 1073741824))
  congr 1
  unfold Mt.tok
  rw [if_pos (show k ∈ (m.tick n).ks from hk), if_pos hk, tick_now h hn]
  show afterV m.r m.b (m.f k).1 (m.now + min n 1073741824 - (m.f k).2) = min m.b (afterV m.r m.b (m.f k).1 (m.now - (m.f k).2) + m.r * min n 1073741824)
  unfold afterV
  have h1 : m.r * (m.now + min n 1073741824 - (m.f k).2) = m.r * (m.now - (m.f k).2) + m.r * min n 1073741824 := by
    rw [← Int.mul_add]
    congr 1
    omega
  have h2 : 0 ≤ m.r * min n 1073741824 := Int.mul_nonneg (by have := hok.r; omega) (by omega)
  rw [h1]
  omega
end Go.Proofs.Ythjeaalnlagpbaa
