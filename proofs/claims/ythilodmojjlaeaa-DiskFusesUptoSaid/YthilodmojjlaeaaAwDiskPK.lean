/- Layer 12: the map of what is read stays in order. -/
import Derived.Test.YthilodmojjlaeaaAwDiskGK
set_option linter.unusedVariables false
set_option linter.unusedSimpArgs false
namespace Go.Aw
open Go.Proofs

theorem MapOk.empty (l : List UInt8) (c : Nat) : MapOk l [] c := ⟨by simp, by simp, by simp, by simp, fun e h => by cases h⟩
theorem mem_modify {α : Type} {f : α → α} : ∀ {l : List α} {j : Nat} {x : α}, x ∈ l.modify j f → ∃ y ∈ l, x = y ∨ x = f y
  | [], j, x, h => by simp at h
  | y :: r, 0, x, h => by
    simp only [List.modify_zero_cons, List.mem_cons] at h
    rcases h with rfl | h
    · exact ⟨y, by simp, .inr rfl⟩
    · exact ⟨x, by simp [h], .inl rfl⟩
  | y :: r, j + 1, x, h => by
    simp only [List.modify_succ_cons, List.mem_cons] at h
    rcases h with rfl | h
    · exact ⟨x, by simp, .inl rfl⟩
    · obtain ⟨z, hz, e⟩ := mem_modify h
      exact ⟨z, by simp [hz], e⟩
theorem map_modify_id {α β : Type} {f : α → α} {g : α → β} (h : ∀ x, g (f x) = g x) : ∀ (l : List α) (j : Nat), (l.modify j f).map g = l.map g
  | [], j => by simp
  | y :: r, 0 => by simp [h]
  | y :: r, j + 1 => by simp [map_modify_id h r j]
theorem MapOk.upd {l : List UInt8} {m : List (Int × Nat × List UInt8)} {c : Nat} (h : MapOk l m c) (n : Nat) (hn : n < l.length / 64) (b : List UInt8) (hb : b.length = 64) : MapOk l (updB n b m c).1 (updB n b m c).2 := by
  unfold updB
  cases hf : findB (n : Int) m with
  | none =>
    have hno := findB_none hf
    refine ⟨fun e he => ?_, ?_, ?_, fun e he => ?_, fun e he => ?_⟩
    · rcases List.mem_append.1 he with he | he
      · have := h.born e he; simp only; omega
      · simp only [List.mem_singleton] at he; subst he; simp
    · simp only [List.map_append, List.map_cons, List.map_nil]
      refine List.nodup_append.2 ⟨h.nodupB, by simp, fun a ha b' hb' => ?_⟩
      simp only [List.mem_singleton] at hb'
      subst hb'
      obtain ⟨e, he, rfl⟩ := List.mem_map.1 ha
      have := h.born e he; omega
    · simp only [List.map_append, List.map_cons, List.map_nil]
      refine List.nodup_append.2 ⟨h.nodupK, by simp, fun a ha b' hb' => ?_⟩
      simp only [List.mem_singleton] at hb'
      subst hb'
      obtain ⟨e, he, rfl⟩ := List.mem_map.1 ha
      exact hno e he
    · rcases List.mem_append.1 he with he | he
      · exact h.rng e he
      · simp only [List.mem_singleton] at he; subst he; simp only; omega
    · rcases List.mem_append.1 he with he | he
      · exact h.full e he
      · simp only [List.mem_singleton] at he; subst he; exact hb
  | some x =>
    refine ⟨fun e he => ?_, ?_, ?_, fun e he => ?_, fun e he => ?_⟩
    · obtain ⟨y, hy, rfl | rfl⟩ := mem_modify he
      · exact h.born _ hy
      · exact h.born y hy
    · have := map_modify_id (f := fun e : Int × Nat × List UInt8 => (e.1, e.2.1, b)) (g := fun e => e.2.1) (fun _ => rfl) m x.1
      simp only
      rw [this]; exact h.nodupB
    · have := map_modify_id (f := fun e : Int × Nat × List UInt8 => (e.1, e.2.1, b)) (g := fun e => e.1) (fun _ => rfl) m x.1
      simp only
      rw [this]; exact h.nodupK
    · obtain ⟨y, hy, rfl | rfl⟩ := mem_modify he
      · exact h.rng _ hy
      · exact h.rng y hy
    · obtain ⟨y, hy, rfl | rfl⟩ := mem_modify he
      · exact h.full _ hy
      · exact hb
end Go.Aw
