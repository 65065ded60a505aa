/- the plain law, part 19 -/
import Derived.Test.YtcgndadlcgnilaaGreatP18
set_option autoImplicit false
set_option linter.unusedSimpArgs false
set_option linter.unusedVariables false
set_option linter.unnecessarySimpa false
section
namespace Go.Av
theorem g25_head (n : Nat) (hn : 10 ≤ n) (x0 x1 m : Int) (y2 y3 R b : List Int) (h0 : isI64 x0) (h1 : isI64 x1) (h2 : ∀ x, x ∈ y2 → isI64 x) (h3 : ∀ x, x ∈ y3 → isI64 x) (hm : isI64 m) (k2 : y2.length < 1000 ∧ y2.length < n) (k3 : y3.length < 1000 ∧ y3.length < n)
  (hb : b.length < 1000000) (e : b = vi x0 ++ (vi x1 ++ (vis y2 ++ (vis y3 ++ (vi m ++ R))))) : ∃ s4 s6 s8 s10, g25 n b = l25_0 n b (x0, s4) (x1, s6) (y2, s8) (y3, s10) (m, ⟨R, 0⟩) n 0 R 0 [] := by
 have len := congrArg List.length e
 simp only [List.length_append] at len
 have r1 : g29 n ⟨b, 0⟩ = some (x0, ⟨vi x1 ++ (vis y2 ++ (vis y3 ++ (vi m ++ R))), 0⟩) := by rw [e]; exact g29_vi n _ h0 hn
 have r2 := g29_vi n (vis y2 ++ (vis y3 ++ (vi m ++ R))) h1 hn
 have r3 := g53_vis n y2 (vis y3 ++ (vi m ++ R)) h2 (by omega) hn k2.2 (by simp only [List.length_append]; omega)
 have r4 := g53_vis n y3 (vi m ++ R) h3 (by omega) hn k3.2 (by simp only [List.length_append]; omega)
 have r5 := g29_vi n R hm hn
 have r0 : g26 n b = some ⟨b, 0⟩ := by unfold g26 g57; rw [if_pos (by omega)]; rfl
 clear e
 refine ⟨⟨vi x1 ++ (vis y2 ++ (vis y3 ++ (vi m ++ R))), 0⟩, ⟨vis y2 ++ (vis y3 ++ (vi m ++ R)), 0⟩, ⟨vis y3 ++ (vi m ++ R), 0⟩, ⟨vi m ++ R, 0⟩, ?_⟩
 unfold g25
 rw [r0]; simp only [Option.bind_some]
 rw [r1]; simp only [Option.bind_some]
 rw [r2]; simp only [Option.bind_some]
 rw [r3]; simp only [Option.bind_some]
 rw [r4]; simp only [Option.bind_some]
 rw [r5]; simp only [Option.bind_some]
theorem g25_enc (n : Nat) (h1 : 1000 ≤ n) (h2 : n < 1000000) (r : S8) (h : okR r) (hb : (encR r).length < n) : g25 n (encR r) = some (r, 0) := by
 have he := g24_enc n h1 h2 r h
 have hn : 10 ≤ n := by omega
 have e : encR r = vi r.c0 ++ (vi r.c1 ++ (vis r.c2 ++ (vis r.c3 ++ (vi r.c4.length ++ (fl vw r.c4 ++ (vi r.c5.length ++ (fl vw r.c5 ++ (vi r.c6.length ++ fl vw r.c6)))))))) := by
  simp [encR, vws]
 have g4 := fl_ge vw r.c4 (fun x => vu_pos _)
 have g5 := fl_ge vw r.c5 (fun x => vu_pos _)
 have g6 := fl_ge vw r.c6 (fun x => vu_pos _)
 obtain ⟨k2, j2⟩ := h.c2
 obtain ⟨k3, j3⟩ := h.c3
 obtain ⟨k4, j4⟩ := h.c4
 obtain ⟨k5, j5⟩ := h.c5
 obtain ⟨k6, j6⟩ := h.c6
 have len := congrArg List.length e
 simp only [List.length_append] at len
 have i4 : isI64 ((r.c4.length : Nat) : Int) := ⟨by omega, by omega⟩
 have i5 : isI64 ((r.c5.length : Nat) : Int) := ⟨by omega, by omega⟩
 have i6 : isI64 ((r.c6.length : Nat) : Int) := ⟨by omega, by omega⟩
 have z4 : r.c4.length ≤ (encR r).length := by omega
 have z5 : r.c5.length ≤ (encR r).length := by omega
 have z6 : r.c6.length ≤ (encR r).length := by omega
 obtain ⟨s4, s6, s8, s10, hg⟩ := g25_head n hn _ _ _ _ _ _ _ h.c0 h.c1 j2 j3 i4 ⟨k2, by omega⟩ ⟨k3, by omega⟩ (by omega) e
 clear e len
 generalize encR r = b at *
 rw [hg]
 have q0 := l25_0_rd n b (r.c0, s4) (r.c1, s6) (r.c2, s8) (r.c3, s10) ((r.c4.length : Int), ⟨fl vw r.c4 ++ (vi r.c5.length ++ (fl vw r.c5 ++ (vi r.c6.length ++ fl vw r.c6))), 0⟩) r.c4 (vi r.c5.length ++ (fl vw r.c5 ++ (vi r.c6.length ++ fl vw r.c6))) hn j4 (by omega) rfl z4 n 0 [] (by omega) (by omega) rfl
 rw [List.drop_zero, List.nil_append, show ((0 : Nat) : Int) = 0 from rfl] at q0
 rw [q0, g29_vi n _ i5 hn]; simp only [Option.bind_some]
 have q1 := l25_4_rd n b (r.c0, s4) (r.c1, s6) (r.c2, s8) (r.c3, s10) ((r.c5.length : Int), ⟨fl vw r.c5 ++ (vi r.c6.length ++ fl vw r.c6), 0⟩) r.c4 r.c5 (vi r.c6.length ++ fl vw r.c6) hn j5 (by omega) rfl z5 n 0 [] (by omega) (by omega) rfl
 rw [List.drop_zero, List.nil_append, show ((0 : Nat) : Int) = 0 from rfl] at q1
 rw [q1, g29_vi n _ i6 hn]; simp only [Option.bind_some]
 have q2 := l25_6_rd n b (r.c0, s4) (r.c1, s6) (r.c2, s8) (r.c3, s10) ((r.c6.length : Int), ⟨fl vw r.c6, 0⟩) r.c4 r.c5 r.c6 hn h2 j6 (by omega) rfl z6 hb he n 0 [] (by omega) (by omega) rfl
 rw [List.drop_zero, show ((0 : Nat) : Int) = 0 from rfl] at q2
 rw [q2]
end Go.Av
end
