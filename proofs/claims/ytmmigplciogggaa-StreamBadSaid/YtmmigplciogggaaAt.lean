/- The n-th piece comes to the front. -/
import Derived.Test.YtmmigplciogggaaSep
namespace Go.Proofs.Ytmmigplciogggaa
open Go Go.RowKit
section
variable {w0 w : World} {A B C D E F G R : Asrt}
theorem Sat.at2 (H : Sat w0 w (A * (B * R))) : Sat w0 w (B * (A * R)) := H.cast (by ac_rfl)
theorem Sat.at3 (H : Sat w0 w (A * (B * (C * R)))) : Sat w0 w (C * (A * (B * R))) := H.cast (by ac_rfl)
theorem Sat.at4 (H : Sat w0 w (A * (B * (C * (D * R))))) : Sat w0 w (D * (A * (B * (C * R)))) := H.cast (by ac_rfl)
theorem Sat.at5 (H : Sat w0 w (A * (B * (C * (D * (E * R)))))) : Sat w0 w (E * (A * (B * (C * (D * R))))) := H.cast (by ac_rfl)
theorem Sat.at6 (H : Sat w0 w (A * (B * (C * (D * (E * (F * R))))))) : Sat w0 w (F * (A * (B * (C * (D * (E * R)))))) := H.cast (by ac_rfl)
theorem Sat.at7 (H : Sat w0 w (A * (B * (C * (D * (E * (F * (G * R)))))))) : Sat w0 w (G * (A * (B * (C * (D * (E * (F * R))))))) := H.cast (by ac_rfl)
end
end Go.Proofs.Ytmmigplciogggaa
